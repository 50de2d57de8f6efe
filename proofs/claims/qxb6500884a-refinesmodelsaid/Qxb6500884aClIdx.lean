/- Blocks, Minterms, Index. -/
import Derived.Test.Qxb6500884aClNew
namespace Go.Proofs.Qxb6500884a
open Go.RowKit
set_option linter.unusedSimpArgs false
set_option linter.unusedVariables false

theorem owns_fl {w : World} {base : Nat} {e : TypeId} {v : Value} {n : Nat} {xs : List Value} (h : w.ownsRow base e 1 v n xs) : ∃ a c, v = .slice a n c ∧ Fl w e a n c xs ∧ ∀ k, blkO a = some k → base ≤ k := by
  have hl : xs.length = n := by have := h.1; rw [Nat.mul_one] at this; exact this
  rcases h.2 with ⟨rfl, h0⟩ | ⟨g, cap, cur, rfl, hb, hg, hnc, hcm, hcs, ht⟩
  · subst h0
    exact ⟨none, 0, rfl, ⟨hl, Nat.le_refl _, by unfold maxLen; omega, .inl ⟨rfl, rfl⟩⟩, fun k hk => by cases hk⟩
  · refine ⟨some ⟨g, 0, none⟩, cap, rfl, ⟨hl, hnc, hcm, .inr ⟨g, 0, cur.toList, rfl, by unfold Blk; simpa using hg, by simp [hcs], fun i hi => ?_⟩⟩, fun k hk => by cases hk; exact hb⟩
    have := congrArg (fun t => t[i]?) ht
    simp only [List.getElem?_take] at this
    rw [if_pos (by omega)] at this
    rw [Nat.zero_add]
    exact this
/-- A partition in memory. -/
structure PartV (Ls : List (List (Int × Int))) (pb g : Nat) (T : List (Option Addr × Nat × Nat)) (P : PSt) (pt : Int → List UInt8) (sa : Option Addr) (sc : Nat) (oa : Option Addr) (oc : Nat) (w : World) : Prop where
  pbk : Blk w pb 117 [.slice (some ⟨g, 0, none⟩) P.lists.length P.lists.length, .slice sa P.starts.length sc, .slice oa P.owner.length oc]
  blk : Blk w g 30 (T.map clV)
  cls : ClsOk w T P.lists
  fs : Fl w 3 sa P.starts.length sc (P.starts.map iv64)
  fo : Fl w 3 oa P.owner.length oc (P.owner.map iv64)
  pi : PI pt P 196608
  sem : ∀ x y, 0 ≤ x → x ≤ 196607 → 0 ≤ y → y ≤ 196607 → (pt x = pt y ↔ ∀ l ∈ Ls, memB l x = memB l y)
theorem PartV.below {Ls : List (List (Int × Int))} {pb g : Nat} {T : List (Option Addr × Nat × Nat)} {P : PSt} {pt : Int → List UInt8} {sa : Option Addr} {sc : Nat} {oa : Option Addr} {oc : Nat} {w w' : World} (h : PartV Ls pb g T P pt sa sc oa oc w) (hb : Below w.heap.size w w') : PartV Ls pb g T P pt sa sc oa oc w' :=
  ⟨h.pbk.below hb, h.blk.below hb, h.cls.below hb, h.fs.below hb, h.fo.below hb, h.pi, h.sem⟩
theorem PartP.v {Ls : List (List (Int × Int))} {w w' : World} {e : Ending} (h : PartP Ls w e w') : ∃ pb g T P pt sa sc oa oc, e = .returned (.pointer (some ⟨pb, 0, none⟩)) ∧ PartV Ls pb g T P pt sa sc oa oc w' := by
  obtain ⟨pb, g, T, P, pt, sa, sc, oa, oc, h1, h2, h3, h4, h5, h6, h7, h8, _⟩ := h.out
  exact ⟨pb, g, T, P, pt, sa, sc, oa, oc, h1, h2, h3, h4, h5, h6, h7, h8⟩
theorem PartV.tlen {Ls : List (List (Int × Int))} {pb g : Nat} {T : List (Option Addr × Nat × Nat)} {P : PSt} {pt : Int → List UInt8} {sa : Option Addr} {sc : Nat} {oa : Option Addr} {oc : Nat} {w : World} (h : PartV Ls pb g T P pt sa sc oa oc w) : T.length = P.lists.length := h.cls.len
set_option maxRecDepth 100000 in
set_option maxHeartbeats 1000000 in
theorem blocks_walk (Ls : List (List (Int × Int))) (pb g : Nat) (T : List (Option Addr × Nat × Nat)) (P : PSt) (pt : Int → List UInt8) (sa : Option Addr) (sc : Nat) (oa : Option Addr) (oc : Nat) (w : World) (h : PartV Ls pb g T P pt sa sc oa oc w) :
    Calls Try.prog 58 #[.pointer (some ⟨pb, 0, none⟩)] w fun e w' => ∃ a c, e = .returned (.slice a P.lists.length c) ∧ Fl w' 30 a P.lists.length c (T.map clV) ∧ Below w.heap.size w w' := by
  obtain ⟨i0, hi, hz0, hz1, hz2⟩ := info_cls
  have HI := hid (And.intro hi (And.intro hz0 (And.intro hz1 hz2)))
  have hb := (h.pi.bounds (by omega)).1
  have htl := h.tlen
  obtain ⟨N, hN⟩ : ∃ N, P.lists.length = N := ⟨_, rfl⟩
  have c0 : w.cell? ⟨pb, 0, none⟩ = some (.slice (some ⟨g, 0, none⟩) N N) := by have := h.pbk.cell 0; simp only [List.getElem?_cons_zero, hN] at this; exact this
  rw [hN] at hb htl ⊢
  have hl : (T.map clV).length = N * 1 := by simp [htl]
  have HCe : Hid (∀ ad, some (⟨g, 0, none⟩ : Addr) = some ad → ∀ j u, (T.map clV)[j]? = some u → w.cell? (ad.add j) = some u) := hid (fun ad ha j u hj => by
    cases ha
    have e : (⟨g, 0, none⟩ : Addr).add j = ⟨g, j, none⟩ := by unfold Addr.add; split <;> simp_all
    rw [e, h.blk.cell]
    exact hj)
  have H1 : Hid (∀ u ∈ T.map clV, u.oneCell' = true) := hid (fun u hu => by obtain ⟨t, _, rfl⟩ := List.mem_map.1 hu; rfl)
  have HO : Hid (w.ownsRow w.heap.size 30 1 (.slice none 0 0) 0 []) := hid (World.ownsRow_nil _ _ _ _)
  have hby : (0 + N) * 24 ≤ 140737488355328 := by omega
  clear h hi hz0 hz1 hz2
  go_enter Try.func58, Try.ntmps58
  go_wp2_with (at_builtin; refine wpList_append_row _ rfl (.const (.slice none 0 0)) (.tmp 6) 77 rfl w.heap.size 30 i0 (.agg #[.slice none 0 0]) 1 24 Try.underlying77 HI.out.1 HI.out.2.1 HI.out.2.2.1 HI.out.2.2.2 rfl (by decide) _ _ _ rfl HO.out (some ⟨g, 0, none⟩) N N (T.map clV) rfl hl (fun h => by cases h) HCe.out H1.out hby (by decide) (Nat.le_refl _) ?_; intro v8 w8 hown8 hb8 hk8 hg8; have HOw8 := hid hown8; have HB8 := hid hb8; clear hown8 hb8 hk8 hg8)
  go_ret
  have ho := HOw8.out
  rw [Nat.zero_add, List.nil_append] at ho
  obtain ⟨a, c, rfl, hf, _⟩ := owns_fl ho
  exact ⟨a, c, rfl, hf, HB8.out⟩
/-- What Minterms leaves. -/
structure MinP (Ls : List (List (Int × Int))) (w : World) (e : Ending) (w' : World) : Prop where
  out : ∃ a c T P pt, e = .returned (.slice a P.lists.length c) ∧ Fl w' 30 a P.lists.length c (T.map clV) ∧ ClsOk w' T P.lists ∧ PI pt P 196608 ∧ (∀ x y, 0 ≤ x → x ≤ 196607 → 0 ≤ y → y ≤ 196607 → (pt x = pt y ↔ ∀ l ∈ Ls, memB l x = memB l y))
  bel : Below w.heap.size w w'
set_option maxRecDepth 100000 in
theorem minterms_walk (fa : Option Addr) (fn fc : Nat) (T : List (Option Addr × Nat × Nat)) (Ls : List (List (Int × Int))) (w : World) (hF : Fl w 30 fa fn fc (T.map clV)) (hC : ClsOk w T Ls) (hn : fn ≤ 65536) :
    Calls Try.prog 52 #[.slice fa fn fc] w fun e w' => MinP Ls w e w' := by
  have HW := hid (newPart_walk fa fn fc T Ls w hF hC hn)
  clear hF hC
  go_enter Try.func52, Try.ntmps52
  go_wp2_with fail
  refine HW.out.mono ?_
  rintro e w1 hp
  obtain ⟨pb, g, T1, P, pt, sa, sc, oa, oc, rfl, hv⟩ := hp.v
  have HV := hid hv
  have HB1 := hid hp.bel
  clear hp hv HW
  go_wp2_with fail
  refine (blocks_walk Ls pb g T1 P pt sa sc oa oc w1 HV.out).mono ?_
  rintro e w2 ⟨a, c, rfl, hf, hb⟩
  have HF2 := hid hf
  have HB2 := hid hb
  clear hf hb
  go_wp2
  go_ret
  exact ⟨⟨a, c, T1, P, pt, rfl, HF2.out, HV.out.cls.below HB2.out, HV.out.pi, HV.out.sem⟩, HB1.out.trans (HB2.out.mono HB1.out.size)⟩
set_option maxRecDepth 100000 in
set_option maxHeartbeats 1000000 in
theorem idx1_walk (b2 b3 pb g off n c : Nat) (x y : Int) (i : Nat) (w : World) (h2 : w.cell? ⟨b2, 0, none⟩ = some (.pointer (some ⟨pb, 0, none⟩))) (h3 : w.cell? ⟨b3, 0, none⟩ = some (.int .i64 x)) (hp : w.cell? ⟨pb, 1, none⟩ = some (.slice (some ⟨g, off, none⟩) n c)) (hi : i < n) (hc : w.cell? ⟨g, off + i, none⟩ = some (.int .i64 y)) :
    Calls Try.prog 89 #[.int .i64 (i : Int), .pointer (some ⟨b2, 0, none⟩), .pointer (some ⟨b3, 0, none⟩)] w fun e w' => e = .returned (.bool (decide (x < y))) ∧ ∃ q, w' = w.drewN q := by
  have i1 : (i : Int) < (n : Int) := by omega
  go_enter Try.func89, Try.ntmps89
  go_wp2
  go_quiet (fail)
  go_wp2
  go_ret
  exact ⟨rfl, nq, rfl⟩
/-- The number of starts up to x. -/
structure CntUp (starts : List Int) (x : Int) (k : Nat) : Prop where
  le : k ≤ starts.length
  lo : ∀ (i : Nat) (y : Int), i < k → starts[i]? = some y → y ≤ x
  hi : ∀ (i : Nat) (y : Int), k ≤ i → starts[i]? = some y → x < y
set_option maxRecDepth 100000 in
set_option maxHeartbeats 2000000 in
theorem search_walk (b2 b3 pb : Nat) (sa : Option Addr) (n sc : Nat) (starts : List Int) (x : Int) (w : World) (hb2 : Blk w b2 88 [.pointer (some ⟨pb, 0, none⟩)]) (hb3 : Blk w b3 3 [.int .i64 x]) (hp : w.cell? ⟨pb, 1, none⟩ = some (.slice sa n sc)) (hpl : pb < w.heap.size) (hf : Fl w 3 sa n sc (starts.map iv64)) (hn : n ≤ 196608)
    (hs : ∀ (i j : Nat) (x y : Int), i < j → starts[i]? = some x → starts[j]? = some y → x < y) :
    Calls Try.prog 88 #[.int .i64 (n : Int), .func (.func 89) #[] #[.pointer (some ⟨b2, 0, none⟩), .pointer (some ⟨b3, 0, none⟩)]] w fun e w' => ∃ k : Nat, e = .returned (.int .i64 (k : Int)) ∧ CntUp starts x k ∧ Below w.heap.size w w' := by
  have hl : starts.length = n := by have := hf.len; simpa using this
  have HF := hid hf
  have HB2 := hid hb2
  have HB3 := hid hb3
  have HP := hid hp
  clear hf hb2 hb3 hp
  go_enter Try.func88, Try.ntmps88
  go_wp2_with fail
  go_loopw [5, 6] (fun lo hi wr => ∃ (i j : Nat), i ≤ j ∧ j ≤ n ∧ lo = .int .i64 i ∧ hi = .int .i64 j ∧ (∀ (k : Nat) (y : Int), k < i → starts[k]? = some y → y ≤ x) ∧ (∀ (k : Nat) (y : Int), j ≤ k → starts[k]? = some y → x < y) ∧ Hid (Below w.heap.size w wr)) (fun lo hi _ => (intOf hi).toNat - (intOf lo).toNat)
  case atStart => exact ⟨0, n, Nat.zero_le _, Nat.le_refl _, rfl, rfl, fun k y hk => by omega, fun k y hk hy => by have := (List.getElem?_eq_some_iff.1 hy).1; omega, hid (Below.refl _ _)⟩
  case round =>
    obtain ⟨i, j, hij, hj, rfl, rfl, h1, h2, HBe⟩ := hrel
    have H1 := hid h1
    have H2 := hid h2
    clear h1 h2
    by_cases hlt : i < j
    rotate_left
    · as_aux_lemma =>
      have d1 : decide ((i : Int) < (j : Int)) = false := decide_eq_false (by omega)
      go_wp2
      go_ret
      exact ⟨i, rfl, ⟨by omega, H1.out, fun k y hk hy => H2.out k y (by omega) hy⟩, HBe.out⟩
    have d1 : decide ((i : Int) < (j : Int)) = true := decide_eq_true (by omega)
    obtain ⟨m, hm⟩ : ∃ m, (i + j) / 2 = m := ⟨_, rfl⟩
    have hm1 : i ≤ m ∧ m < j := by omega
    obtain ⟨y, hy⟩ : ∃ y, starts[m]? = some y := ⟨_, List.getElem?_eq_getElem (by omega)⟩
    obtain ⟨g, off, rfl, e1⟩ := (HF.out.below HBe.out).cell (i := m) (by omega)
    rw [List.getElem?_map, hy] at e1
    have HId := hid (idx1_walk b2 b3 pb g off n sc x y m wr ((HB2.out.below HBe.out).cell 0) ((HB3.out.below HBe.out).cell 0) (by rw [HBe.out.cell hpl]; exact HP.out) (by omega) e1)
    have Hy := hid hy
    have e2 : ((i : Int) + (j : Int)) / 2 = (m : Int) := by omega
    have Hm := hid hm
    clear e1 hy hm
    go_upto_region 4 with fail
    go_wp2_with fail
    refine HId.out.mono ?_
    rintro e w5 ⟨rfl, q, rfl⟩
    have HBe5 : Hid (Below w.heap.size w (wr.drewN q)) := hid (HBe.out.trans ((Drew.below ⟨q, rfl⟩ _ : Below wr.heap.size wr (wr.drewN q)).mono HBe.out.size))
    generalize wr.drewN q = w6 at HBe5 ⊢
    by_cases hxy : x < y
    · as_aux_lemma =>
      have dx : decide (x < y) = true := decide_eq_true hxy
      simp only [dx]
      go_wp2
      exact ⟨⟨i, m, by omega, by omega, rfl, rfl, H1.out, fun k y' hk hy' => by
        rcases Nat.lt_or_ge m k with h | h
        · have := hs m k y y' h Hy.out hy'; omega
        · have : k = m := by omega
          subst this
          rw [Hy.out] at hy'
          cases hy'
          exact hxy, HBe5⟩, by simp [intOf]; omega⟩
    · as_aux_lemma =>
      have dx : decide (x < y) = false := decide_eq_false hxy
      simp only [dx]
      go_wp2
      exact ⟨⟨m + 1, j, by omega, by omega, by go_num, rfl, fun k y' hk hy' => by
        rcases Nat.lt_or_ge k m with h | h
        · have := hs k m y' y h hy' Hy.out; omega
        · have : k = m := by omega
          subst this
          rw [Hy.out] at hy'
          cases hy'
          omega, H2.out, HBe5⟩, by simp [intOf]; omega⟩
/-- What Index answers. -/
def IdxR (P : PSt) (pt : Int → List UInt8) (x : Int) (v : Int) (ok : Bool) : Prop := (ok = true ∧ 0 ≤ x ∧ x ≤ 196607 ∧ ∃ b : Nat, v = (b : Int) ∧ P.pats[b]? = some (pt x)) ∨ (ok = false ∧ v = 0 ∧ ¬ (0 ≤ x ∧ x ≤ 196607))
structure IdxP (P : PSt) (pt : Int → List UInt8) (x : Int) (w : World) (e : Ending) (w' : World) : Prop where
  out : ∃ v ok, e = .returned (.tuple #[.int .i64 v, .bool ok]) ∧ IdxR P pt x v ok
  bel : Below w.heap.size w w'
theorem PI.index {pt : Int → List UInt8} {P : PSt} (h : PI pt P 196608) {x : Int} (h0 : 0 ≤ x) (h1 : x ≤ 196607) {k : Nat} (hk : CntUp P.starts x k) : 0 < k ∧ ∃ o, P.owner[k - 1]? = some o ∧ ∃ b : Nat, o = (b : Int) ∧ P.pats[b]? = some (pt x) := by
  have hs0 := h.s0 (by omega)
  have hk0 : 0 < k := by
    rcases Nat.eq_zero_or_pos k with e | e
    · subst e
      have := hk.hi 0 0 (Nat.le_refl _) hs0
      omega
    · exact e
  have hle := hk.le
  obtain ⟨y, hy⟩ : ∃ y, P.starts[k - 1]? = some y := ⟨_, List.getElem?_eq_getElem (by omega)⟩
  obtain ⟨o, ho⟩ : ∃ o, P.owner[k - 1]? = some o := ⟨_, List.getElem?_eq_getElem (by rw [← h.olen]; omega)⟩
  obtain ⟨b, hb, _, hbb⟩ := h.own (k - 1) y o hy ho
  exact ⟨hk0, o, ho, b, hb, hbb x (hk.lo (k - 1) y (by omega) hy) (by omega) (fun x' hx' => hk.hi k x' (Nat.le_refl _) (by rw [show k - 1 + 1 = k by omega] at hx'; exact hx'))⟩
set_option maxRecDepth 100000 in
set_option maxHeartbeats 2000000 in
theorem index_walk (Ls : List (List (Int × Int))) (pb g : Nat) (T : List (Option Addr × Nat × Nat)) (P : PSt) (pt : Int → List UInt8) (sa : Option Addr) (sc : Nat) (oa : Option Addr) (oc : Nat) (x : Int) (w : World) (h : PartV Ls pb g T P pt sa sc oa oc w) :
    Calls Try.prog 56 #[.pointer (some ⟨pb, 0, none⟩), .int .i64 x] w fun e w' => IdxP P pt x w e w' := by
  have HV := hid h
  have hbd := (h.pi.bounds (by omega)).2.1
  have hol := h.pi.olen
  obtain ⟨q, hq⟩ : ∃ q, w.heap.size = q := ⟨_, rfl⟩
  obtain ⟨q3, hq3⟩ : ∃ q3, q + 1 = q3 := ⟨_, rfl⟩
  have hb2 := (Blk.new w [.pointer (some ⟨pb, 0, none⟩)] 88).alloc (.cells #[.int .i64 x] 3)
  have hb3 := Blk.new (w.alloc (.cells #[.pointer (some ⟨pb, 0, none⟩)] 88)) [.int .i64 x] 3
  rw [hq] at hb2
  rw [show (w.alloc (.cells #[.pointer (some ⟨pb, 0, none⟩)] 88)).heap.size = q3 by rw [← hq3, ← hq]; simp] at hb3
  have hbe : Below w.heap.size w ((w.alloc (.cells #[.pointer (some ⟨pb, 0, none⟩)] 88)).alloc (.cells #[.int .i64 x] 3)) := (nbel w _).alloc (by simp) _
  have HB2 := hid hb2
  have HB3 := hid hb3
  have HBe := hid hbe
  have Hq3 := hid hq3
  clear hb2 hb3 hbe h
  go_enter Try.func56, Try.ntmps56
  go_upto_region 1 with fail
  have HB2' : Hid (Blk ((w.alloc (.cells #[.pointer (some ⟨pb, 0, none⟩)] 88)).alloc (.cells #[.int .i64 x] 3)) q 88 [.pointer (some ⟨pb, 0, none⟩)]) := HB2
  have HB3' : Hid (Blk ((w.alloc (.cells #[.pointer (some ⟨pb, 0, none⟩)] 88)).alloc (.cells #[.int .i64 x] 3)) q3 3 [.int .i64 x]) := HB3
  clear HB2 HB3
  generalize (w.alloc (.cells #[.pointer (some ⟨pb, 0, none⟩)] 88)).alloc (.cells #[.int .i64 x] 3) = w1 at HB2' HB3' HBe ⊢
  have HV1 := hid (HV.out.below HBe.out)
  have cx : w1.cell? ⟨q3, 0, none⟩ = some (.int .i64 x) := HB3'.out.cell 0
  have cp : w1.cell? ⟨q, 0, none⟩ = some (.pointer (some ⟨pb, 0, none⟩)) := HB2'.out.cell 0
  clear hq3
  by_cases hr : 0 ≤ x ∧ x ≤ 196607
  rotate_left
  · by_cases hneg : x < 0
    · as_aux_lemma =>
      have d1 : decide (x < 0) = true := decide_eq_true hneg
      go_wp2
      exact bodyPost_ret (results_tmp2 Try.results56 _ _ _) rfl ⟨⟨0, false, rfl, .inr ⟨rfl, rfl, hr⟩⟩, HBe.out⟩
    · as_aux_lemma =>
      have d1 : decide (x < 0) = false := decide_eq_false hneg
      have d2 : decide (196607 < x) = true := decide_eq_true (by omega)
      go_wp2
      exact bodyPost_ret (results_tmp2 Try.results56 _ _ _) rfl ⟨⟨0, false, rfl, .inr ⟨rfl, rfl, hr⟩⟩, HBe.out⟩
  have d1 : decide (x < 0) = false := decide_eq_false (by omega)
  have d2 : decide (196607 < x) = false := decide_eq_false (by omega)
  obtain ⟨n, hn⟩ : ∃ n, P.starts.length = n := ⟨_, rfl⟩
  have Hn := hid hn
  have hn6 : n ≤ 196608 := by rw [← hn, hol]; exact hbd
  have cs : w1.cell? ⟨pb, 1, none⟩ = some (.slice sa n sc) := by have := HV1.out.pbk.cell 1; simp only [List.getElem?_cons_succ, List.getElem?_cons_zero, hn] at this; exact this
  have co : ∀ w' : World, Below w1.heap.size w1 w' → w'.cell? ⟨pb, 2, none⟩ = some (.slice oa n oc) := fun w' hb => by have := (HV1.out.below hb).pbk.cell 2; simp only [List.getElem?_cons_succ, List.getElem?_cons_zero, ← hol, hn] at this; exact this
  have Hco := hid co
  have HSe := hid (search_walk q q3 pb sa n sc P.starts x w1 HB2'.out HB3'.out cs HV1.out.pbk.lt (by rw [← hn]; exact HV1.out.fs) (by omega) HV1.out.pi.sasc)
  clear co hn
  go_upto_region 3 with fail
  go_wp2_with fail
  refine HSe.out.mono ?_
  rintro e w5 ⟨k, rfl, hcu, hb5⟩
  obtain ⟨hk0, o, ho, b, hob, hpb⟩ := HV1.out.pi.index hr.1 hr.2 hcu
  have hkl := hcu.le
  rw [Hn.out] at hkl
  obtain ⟨m, hm⟩ : ∃ m, k = m + 1 := ⟨k - 1, by omega⟩
  subst hm
  have co := Hco.out w5 hb5
  obtain ⟨g2, off2, hoa, e2⟩ := (HV1.out.below hb5).fo.cell (i := m) (by rw [← hol, Hn.out]; omega)
  rw [List.getElem?_map, show m = m + 1 - 1 by omega, ho] at e2
  have e3 : w5.cell? ⟨g2, off2 + m, none⟩ = some (.int .i64 o) := e2
  subst hoa
  have i1 : ((m + 1 : Nat) : Int) - 1 = (m : Int) := by omega
  have i2 : (m : Int) < (n : Int) := by omega
  have cp5 : w5.cell? ⟨q, 0, none⟩ = some (.pointer (some ⟨pb, 0, none⟩)) := (HB2'.out.below hb5).cell 0
  have HB5 := hid hb5
  have Hpb := hid hpb
  have Hob := hid hob
  clear e2 hb5 hcu ho hpb hob cx cp cs HSe Hco
  go_wp2
  exact bodyPost_ret (results_tmp2 Try.results56 _ _ _) rfl ⟨⟨o, true, rfl, .inl ⟨rfl, hr.1, hr.2, b, Hob.out, Hpb.out⟩⟩, HBe.out.trans (HB5.out.mono HBe.out.size)⟩
end Go.Proofs.Qxb6500884a
