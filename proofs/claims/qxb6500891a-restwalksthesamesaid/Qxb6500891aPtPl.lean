/- real.play. -/
import Derived.Test.Qxb6500891aPtRwP
import Derived.Test.Qxb6500891aPtSn
import Derived.Test.Qxb6500891aHeavy
namespace Go.Proofs.Qxb6500891a
open Go.RowKit
set_option linter.unusedSimpArgs false
set_option linter.unusedVariables false

def zAns : List Value := [.int .u8 0, .bool false, .bool false, .bool false, .slice none 0 0, .string ⟨#[]⟩, .int .i64 0, .int .i64 0]
theorem info_ans : (Try.prog.info? 81).map (·.size) = some 8 := by kernel_rfl
theorem aggAns : AggOf Try.prog 81 8 := AggOf.struct Try.underlying81 (by kernel_rfl)
theorem one8 {a b c d e f g h : Value} (h1 : a.oneCell' = true) (h2 : b.oneCell' = true) (h3 : c.oneCell' = true) (h4 : d.oneCell' = true) (h5 : e.oneCell' = true) (h6 : f.oneCell' = true) (h7 : g.oneCell' = true) (h8 : h.oneCell' = true) : ∀ v ∈ [a, b, c, d, e, f, g, h], v.oneCell' = true := by
  intro v hv
  simp at hv
  rcases hv with rfl | rfl | rfl | rfl | rfl | rfl | rfl | rfl <;> assumption
/-- Inside play: the walk, the step, the answer. -/
structure Pl (w : World) (pW : Nat) (t : TypeId) (S : WS) (pO pA : Nat) (oc : List Value) (wr : World) : Prop where
  upd : Upd pW w wr
  a : ∃ cs, Blk wr pW t cs ∧ WOk cs S
  inv : WInv S
  bo : Blk wr pO 71 oc
  ba : Blk wr pA 81 zAns
theorem Pl.below {w wr w' : World} {pW pO pA : Nat} {t : TypeId} {S : WS} {oc : List Value} (h : Pl w pW t S pO pA oc wr) (hb : Below wr.heap.size wr w') : Pl w pW t S pO pA oc w' :=
  ⟨h.upd.ofBelow hb, by obtain ⟨cs, h1, h2⟩ := h.a; exact ⟨cs, h1.below hb, h2⟩, h.inv, h.bo.below hb, h.ba.below hb⟩
theorem Pl.updW {w wr w' : World} {pW pO pA : Nat} {t : TypeId} {S S' : WS} {oc : List Value} (h : Pl w pW t S pO pA oc wr) (hu : Upd pW wr w') (hd : ∃ ds, Blk w' pW t ds ∧ WOk ds S') (hi : WInv S') (hO : pO ≠ pW) (hA : pA ≠ pW) : Pl w pW t S' pO pA oc w' :=
  ⟨h.upd.trans hu, hd, hi, h.bo.upd hu hO, h.ba.upd hu hA⟩
/-- What a step leaves. -/
structure PlE (w : World) (pW : Nat) (t : TypeId) (w' : World) : Prop where
  upd : Upd pW w w'
  a : ∃ ds S', Blk w' pW t ds ∧ WOk ds S' ∧ WInv S'
theorem Pl.fin {w wr w' : World} {pW pO pA : Nat} {t : TypeId} {S : WS} {oc : List Value} (h : Pl w pW t S pO pA oc wr) (hu : Upd pA wr w') (hA : w.heap.size ≤ pA) (hne : pA ≠ pW) : PlE w pW t w' := by
  obtain ⟨cs, h1, h2⟩ := h.a
  exact ⟨h.upd.other hu hA, cs, S, h1.upd hu hne.symm, h2, h.inv⟩
structure PlP (w : World) (pW : Nat) (t : TypeId) (e : Ending) (w' : World) : Prop where
  out : ∃ R : List Value, e = .returned (.agg R.toArray) ∧ R.length = 8 ∧ ∀ v ∈ R, v.oneCell' = true
  ex : PlE w pW t w'
theorem topN_len : ∀ (k : Nat) (lv : List Lvl), lv.length = k → (topN lv 0).length = leftL lv := by
  intro k
  induction k with
  | zero => intro lv h; rw [List.eq_nil_of_length_eq_zero h]; rfl
  | succ k ih =>
    intro lv h
    rcases List.eq_nil_or_concat lv with rfl | ⟨r, L, rfl⟩
    · rfl
    · rw [List.concat_eq_append] at h ⊢
      rw [topN_snoc, leftL_snoc, List.length_append, ih r (by simp at h; omega)]
      simp [nmsL]
      omega
theorem rest_bytes {cs : List Value} {S : WS} (hk : WOk cs S) (h9 : S.lv.length ≤ 9) : (restB S.lv).length ≤ 140737488351232 ∧ ∀ x ∈ restB S.lv, x < 256 := by
  by_cases hne : topN S.lv 0 = []
  · rw [restB_nil hne]
    exact ⟨by simp, fun x hx => by cases hx⟩
  · rw [restB_ne hne]
    constructor
    · have h1 := jn_len _ _ rfl (fun n hn => ((nms_ok hk).ok n hn).2.2)
      have h2 := topN_len _ S.lv rfl
      have h3 := left_le S.lv 9 (fun j L h => (hk.lv j L h).path.n128)
      rw [List.take_of_length_le h9] at h3
      have h4 : (ndB (ndK S.lv 0)).length ≤ 1 := by unfold ndB; split <;> simp
      rw [List.length_append]
      omega
    · intro x hx
      rcases List.mem_append.1 hx with h | h
      · rcases jn_mem _ x h with rfl | ⟨n, h1, h2⟩
        · decide
        · exact nms_b hk n h1 x h2
      · unfold ndB at h
        split at h
        · simp at h; omega
        · cases h
theorem clsL_rng (l : List Nat) : 0 ≤ clsL l ∧ clsL l ≤ 2 := by
  unfold clsL
  split
  · split <;> omega
  · split <;> omega
  · omega
/-- A row of names, sorted or not: what can be read. -/
structure Rd (w : World) (a : Option Addr) (n : Nat) : Prop where
  get : ∀ k, k < n → ∃ x, GoodN x ∧ ∃ b off, a = some ⟨b, off, none⟩ ∧ b < w.heap.size ∧ w.rangeAt b (off + k * 33) (nameC x)
theorem Rd.below {w w' : World} {a : Option Addr} {n : Nat} (h : Rd w a n) (hb : Below w.heap.size w w') : Rd w' a n := by
  refine ⟨fun k hk => ?_⟩
  obtain ⟨x, h1, b, off, h2, h3, h4⟩ := h.get k hk
  refine ⟨x, h1, b, off, h2, Nat.lt_of_lt_of_le h3 hb.size, fun j v hv => ?_⟩
  rw [← h4 j v hv]
  simp only [World.cell?, hb.block b h3]
set_option maxRecDepth 1000000 in
theorem sortNil_walk (w : World) : Calls Try.prog 59 #[.slice none 0 0] w fun e w' => e = .returned (.tuple #[]) ∧ w' = w := by
  go_enter Try.func59, Try.ntmps59
  go_wp2_with fail
  go_loopw [2] (fun i wr => wr = w ∧ i = .int .i64 1) (fun _ _ => 0)
  case atStart => exact ⟨rfl, rfl⟩
  case round =>
    obtain ⟨rfl, rfl⟩ := hrel
    go_wp2
    exact bodyPost_end (v := .tuple #[]) (by simp [results, Try.results59, go_sem]) rfl ⟨rfl, rfl⟩
theorem sort_any {w0 w : World} {v : Value} {ns : List (List Nat)} (h : Nr w0 v ns w) (hl : ns.length ≤ 128) : ∃ a n c, v = .slice a n c ∧ n ≤ 128 ∧ Calls Try.prog 59 #[v] w fun e w' => e = .returned (.tuple #[]) ∧ Below w0.heap.size w0 w' ∧ Rd w' a n := by
  rcases h.own.2 with ⟨rfl, h0⟩ | ⟨g, cap, cur, rfl, hbg, hg, hnc, hcm, hcs, htake⟩
  · refine ⟨none, 0, 0, rfl, by omega, (sortNil_walk w).mono ?_⟩
    rintro e w' ⟨rfl, rfl⟩
    exact ⟨rfl, h.bel, ⟨fun k hk => by omega⟩⟩
  · have hb : Blk w g 36 cur.toList := by unfold Blk; simpa using hg
    have hnb : NB cur.toList ns.length := by
      have hcl : cur.toList.length = cap * 33 := by simpa using hcs
      refine ⟨by rw [hcl]; exact Nat.mul_le_mul_right _ hnc, fun k hk => ?_⟩
      have hok := h.ok ns[k] (List.getElem_mem hk)
      refine ⟨ns[k], hok, fun j v hv => ?_⟩
      have hj := (List.getElem?_eq_some_iff.1 hv).1
      rw [nameC_len hok.nm.le] at hj
      have hlt : k * 33 + j < ns.length * 33 := by omega
      have e1 : (ns.flatMap nameC)[k * 33 + j]? = some v := by
        rw [flat_T ns (fun x hx => (h.ok x hx).nm.le), getElem?_flatMap_const (by omega) ns (fun x _ => nameT_len x)]
        have d1 : (k * 33 + j) / 33 = k := by omega
        have d2 : (k * 33 + j) % 33 = j := by omega
        rw [d1, d2, List.getElem?_eq_getElem hk]
        show (nameT ns[k])[j]? = some v
        rw [nameT_eq hok.nm.le]
        exact hv
      rw [← htake, List.getElem?_take, if_pos hlt] at e1
      exact e1
    refine ⟨_, _, _, rfl, hl, (sortNames_walk g ns.length cap cur.toList w hb hnb (by omega)).mono ?_⟩
    rintro e w' ⟨rfl, hs⟩
    refine ⟨rfl, h.bel.trans (hs.upd.below hbg h.bel.size), ⟨fun k hk => ?_⟩⟩
    obtain ⟨x, h1, h2⟩ := hs.get hk
    obtain ⟨cs, h3, _⟩ := hs.blk
    exact ⟨x, h1, g, 0, rfl, h3.lt, by rw [Nat.zero_add]; exact h2⟩
theorem nr_app {w0 w : World} {v v' : Value} {w' : World} {ns ms : List (List Nat)} (h : Nr w0 v ns w) (hms : ∀ x ∈ ms, GoodN x) (ho : w'.ownsRow w0.heap.size 36 33 v' (ns.length + ms.length) (ns.flatMap nameC ++ ms.flatMap nameC)) (hb : Below w0.heap.size w w') : Nr w0 v' (ns ++ ms) w' :=
  ⟨h.bel.trans hb, by rw [List.length_append, List.flatMap_append]; exact ho, fun x hx => by
    rcases List.mem_append.1 hx with h1 | h1
    · exact h.ok x h1
    · exact hms x h1⟩
theorem flat_one {ms : List (List Nat)} : ∀ u ∈ ms.flatMap nameC, u.oneCell' = true := by
  intro u hu
  obtain ⟨x, _, h⟩ := List.mem_flatMap.1 hu
  exact one_name x u h
theorem flat_len {ms : List (List Nat)} (h : ∀ x ∈ ms, GoodN x) : (ms.flatMap nameC).length = ms.length * 33 := length_flatMap_const ms (fun x hx => nameC_len (h x hx).nm.le)
structure PlA (w : World) (pW : Nat) (t : TypeId) (S : WS) (pO pA : Nat) (oc : List Value) (v : Value) (n p : Nat) (C : List Value) (w0 wr : World) : Prop where
  pl : Pl w pW t S pO pA oc wr
  ab : Abn w0 v n p C wr

set_option maxRecDepth 1000000 in
set_option maxHeartbeats 16000000 in
theorem play_walk (pW : Nat) (t : TypeId) (cs : List Value) (S : WS) (w : World) (hb : Blk w pW t cs) (hk : WOk cs S) (hi : WInv S) (kind : Int) (hk0 : 0 ≤ kind) (hk1 : kind < 256) (aa : Option Addr) (an ac : Nat) (la : List Nat) (ba : Option Addr) (bn bc : Nat) (lb : List Nat)
    (hra : ByteRow w aa an ac la) (hrb : ByteRow w ba bn bc lb) (hag : 0 < an → ∀ b off, aa = some ⟨b, off, none⟩ → b ≠ pW) (hbg : 0 < bn → ∀ b off, ba = some ⟨b, off, none⟩ → b ≠ pW) :
    Calls Try.prog 48 #[.pointer (some ⟨pW, 0, none⟩), .agg #[.int .u8 kind, .slice aa an ac, .slice ba bn bc]] w fun e w' => PlP w pW t e w' := by
  have HRa := hid hra
  have HRb := hid hrb
  have Hag := hid hag
  have Hbg := hid hbg
  have hpWw := hb.lt
  obtain ⟨pO, hpO⟩ : ∃ pO, w.heap.size = pO := ⟨_, rfl⟩
  obtain ⟨b1, b2, hbel⟩ := blk2 w [.int .u8 kind, .slice aa an ac, .slice ba bn bc] zAns 71 81
  rw [hpO] at b1 b2
  obtain ⟨oc, hoc⟩ : ∃ oc, [Value.int .u8 kind, .slice aa an ac, .slice ba bn bc] = oc := ⟨_, rfl⟩
  have HP0 : Hid (Pl w pW t S pO (pO + 1) [.int .u8 kind, .slice aa an ac, .slice ba bn bc] ((w.alloc (.cells #[.int .u8 kind, .slice aa an ac, .slice ba bn bc] 71)).alloc (.cells zAns.toArray 81))) := hid ⟨(Upd.refl pW w).ofBelow hbel, ⟨cs, hb.below hbel, hk⟩, hi, b1, b2⟩
  unfold zAns at HP0
  have IA : Hid ((Try.prog.info? 81).map (·.size) = some 8) := hid info_ans
  clear hb hk hi hra hrb hag hbg b1 b2 hbel hoc oc
  go_enter Try.func48, Try.ntmps48
  go_upto_region 1 with fail
  generalize (w.alloc (.cells #[.int .u8 kind, .slice aa an ac, .slice ba bn bc] 71)).alloc (.cells #[.int .u8 0, .bool false, .bool false, .bool false, .slice none 0 0, .string ⟨#[]⟩, .int .i64 0, .int .i64 0] 81) = w1 at HP0 ⊢
  obtain ⟨pA, hpA⟩ : ∃ pA, pO + 1 = pA := ⟨_, rfl⟩
  rw [hpA] at HP0
  rw [hpA]
  have hOW : pO ≠ pW := by omega
  have hAW : pA ≠ pW := by omega
  have hAO : pA ≠ pO := by omega
  have hwO : w.heap.size ≤ pO := by omega
  have hwA : w.heap.size ≤ pA := by omega
  have o0 : w1.cell? ⟨pO, 0, none⟩ = some (.int .u8 kind) := HP0.out.bo.cell 0
  have o1 : w1.cell? ⟨pO, 1, none⟩ = some (.slice aa an ac) := HP0.out.bo.cell 1
  have o2 : w1.cell? ⟨pO, 2, none⟩ = some (.slice ba bn bc) := HP0.out.bo.cell 2
  obtain ⟨oc, hoc⟩ : ∃ oc, [Value.int .u8 kind, .slice aa an ac, .slice ba bn bc] = oc := ⟨_, rfl⟩
  rw [hoc] at HP0
  have HOc := hid hoc
  clear hoc hpA hpO
  by_cases k0 : kind = 0
  · as_aux_lemma =>
    subst k0
    have HPa2 := hid (parse_walk aa an ac la _ (HRa.out.upd HP0.out.upd Hag.out))
    go_wp2_with fail
    refine (HPa2.out).mono ?_
    rintro e w2 ⟨hb2, hcase⟩
    have HP2 := hid (HP0.out.below hb2)
    have HBe2 := hid hb2
    clear hb2 HPa2
    rcases hcase with ⟨code, hc, rfl⟩ | ⟨g2, ds2, sp2, hg2, rfl, hbg2, hpo2⟩
    · as_aux_lemma =>
      have dc : (code != 0) = true := by simpa using hc
      go_wp2_with (refine wpList_store_blk rfl 81 _ _ rfl pA rfl _ rfl HP2.out.ba rfl IA.out (one8 rfl rfl rfl rfl rfl rfl rfl rfl) ?_; intro w9 HB9 HU9)
      exact bodyPost_ret (results_blk Try.results48 rfl (by exact aggAns) HB9.out) rfl ⟨⟨_, rfl, rfl, one8 rfl rfl rfl rfl rfl rfl rfl rfl⟩, HP2.out.fin HU9.out hwA hAW⟩
    have HG2 := hid hbg2
    have HO2 := hid hpo2
    clear hbg2 hpo2
    have HAb := hid (abs_walk g2 0 63 ds2 la sp2 w2 HG2.out HO2.out)
    have HNd := hid (pndir_walk g2 0 63 ds2 la sp2 w2 HG2.out HO2.out)
    go_wp2_with fail
    refine (HAb.out).mono ?_
    rintro e w3 ⟨⟨bb, rfl, _⟩, rfl⟩
    clear HAb
    go_wp2_with fail
    refine (HNd.out).mono ?_
    rintro e w4 ⟨⟨bn2, rfl, _⟩, hb4⟩
    have HP4 := hid (HP2.out.below hb4)
    have HPc := hid (pieces_walk g2 ds2 la sp2 w4 (HG2.out.below hb4) HO2.out)
    clear hb4 HNd
    go_wp2_with fail
    refine (HPc.out).mono ?_
    rintro e w5 ⟨xa, xn, xc, rfl, hb5⟩
    have HP5 := hid (HP4.out.below hb5)
    clear hb5 HPc
    go_wp2_with (refine wpList_store_blk rfl 81 _ _ rfl pA rfl _ rfl HP5.out.ba rfl IA.out (one8 rfl rfl rfl rfl rfl rfl rfl rfl) ?_; intro w9 HB9 HU9)
    exact bodyPost_ret (results_blk Try.results48 rfl (by exact aggAns) HB9.out) rfl ⟨⟨_, rfl, rfl, one8 rfl rfl rfl rfl rfl rfl rfl rfl⟩, HP5.out.fin HU9.out hwA hAW⟩
  have d0 : (kind == 0) = false := by simp; omega
  by_cases k1 : kind = 1
  · as_aux_lemma =>
    subst k1
    have HPa2 := hid (parse_walk aa an ac la _ (HRa.out.upd HP0.out.upd Hag.out))
    go_wp2_with fail
    refine (HPa2.out).mono ?_
    rintro e w2 ⟨hb2, hcase⟩
    have HP2 := hid (HP0.out.below hb2)
    have HBe2 := hid hb2
    clear hb2 HPa2
    rcases hcase with ⟨code, hc, rfl⟩ | ⟨g2, ds2, sp2, hg2, rfl, hbg2, hpo2⟩
    · as_aux_lemma =>
      have dc : (code != 0) = true := by simpa using hc
      go_wp2_with (refine wpList_store_blk rfl 81 _ _ rfl pA rfl _ rfl HP2.out.ba rfl IA.out (one8 rfl rfl rfl rfl rfl rfl rfl rfl) ?_; intro w9 HB9 HU9)
      exact bodyPost_ret (results_blk Try.results48 rfl (by exact aggAns) HB9.out) rfl ⟨⟨_, rfl, rfl, one8 rfl rfl rfl rfl rfl rfl rfl rfl⟩, HP2.out.fin HU9.out hwA hAW⟩
    have HG2 := hid hbg2
    have HO2 := hid hpo2
    clear hbg2 hpo2
    have HSh := hid (shortest_walk g2 0 63 ds2 la sp2 w2 HG2.out HO2.out)
    go_wp2_with fail
    refine (HSh.out).mono ?_
    rintro e w3 ⟨v3, rfl, hab3⟩
    have HP3 := hid (HP2.out.below hab3.bel)
    obtain ⟨st, hst⟩ := hab3.str (by omega)
    clear hab3 HSh
    go_wp2_with (refine wpList_store_blk rfl 81 _ _ rfl pA rfl _ rfl HP3.out.ba rfl IA.out (one8 rfl rfl rfl rfl rfl rfl rfl rfl) ?_; intro w9 HB9 HU9)
    exact bodyPost_ret (results_blk Try.results48 rfl (by exact aggAns) HB9.out) rfl ⟨⟨_, rfl, rfl, one8 rfl rfl rfl rfl rfl rfl rfl rfl⟩, HP3.out.fin HU9.out hwA hAW⟩
  have d1 : (kind == 1) = false := by simp; omega
  by_cases k2 : kind = 2
  · as_aux_lemma =>
    subst k2
    have HNn := hid (newName_walk aa an ac la w1 (HRa.out.upd HP0.out.upd Hag.out))
    obtain ⟨nm, hnm⟩ : ∃ nm, nnRes la = nm := ⟨_, rfl⟩
    obtain ⟨code, hcd⟩ : ∃ code, nnCode la = code := ⟨_, rfl⟩
    have hgood : code = 0 → NmOk nm := fun h => by
      rw [← hcd] at h
      have h1 := nn_good h HRa.out.2
      rw [← hnm, nnRes_ok h]
      exact h1.nm
    have hlen : (nameC nm).length = 33 := by
      by_cases h : code = 0
      · exact nameC_len (hgood h).le
      · rw [← hnm, nnRes_bad hcd h]; rfl
    rw [hnm, hcd] at HNn
    unfold nameV at HNn
    have HGd := hid hgood
    have HOn := hid (one_name nm)
    obtain ⟨CN, hCN⟩ : ∃ CN, nameC nm = CN := ⟨_, rfl⟩
    rw [hCN] at HNn hlen HOn
    have HCN := hid hCN
    have I1 : Hid ((Try.prog.info? 36).map (·.size) = some CN.length) := hid (by rw [hlen]; exact info_name)
    have L1 : Hid ((nameC []).length = CN.length) := hid (by rw [hlen]; rfl)
    clear hgood hnm hcd hCN
    go_wp2_with fail
    refine (HNn.out).mono ?_
    rintro e w2 ⟨rfl, hb2⟩
    have HP2 := hid (HP0.out.below hb2)
    clear hb2 HNn
    obtain ⟨p, hp⟩ : ∃ p, w2.heap.size = p := ⟨_, rfl⟩
    have hbn := Blk.new w2 (nameC []) 36
    rw [hp] at hbn
    have HBn := hid hbn
    clear hbn
    go_upto_region 14 with (refine wpList_store_blk rfl 36 _ _ rfl p rfl CN rfl HBn.out L1.out I1.out HOn.out ?_; intro w3 HB3 HU3)
    have HP3 := hid (HP2.out.below ((nbel w2 _).trans (HU3.out.below (by omega) (by simp))))
    clear HU3 HBn
    by_cases hc : code = 0
    rotate_left
    · as_aux_lemma =>
      have dc : (code != 0) = true := by simpa using hc
      go_wp2_with (refine wpList_store_blk rfl 81 _ _ rfl pA rfl _ rfl HP3.out.ba rfl IA.out (one8 rfl rfl rfl rfl rfl rfl rfl rfl) ?_; intro w9 HB9 HU9)
      exact bodyPost_ret (results_blk Try.results48 rfl (by exact aggAns) HB9.out) rfl ⟨⟨_, rfl, rfl, one8 rfl rfl rfl rfl rfl rfl rfl rfl⟩, HP3.out.fin HU9.out hwA hAW⟩
    subst hc
    have hok := HGd.out rfl
    have HStr := hid (fun w => nmString_walk nm hok w)
    have HCls := hid (fun w => nmClass_walk nm hok w)
    unfold nameV at HStr HCls
    rw [HCN.out] at HStr HCls
    obtain ⟨st, hst⟩ : ∃ st, strL nm = st := ⟨_, rfl⟩
    obtain ⟨cl, hcl⟩ : ∃ cl, clsL nm = cl := ⟨_, rfl⟩
    obtain ⟨cl0, cl2⟩ := clsL_rng nm
    rw [hcl] at HCls cl0 cl2
    rw [hst] at HStr
    clear hst hcl hok HGd HCN
    go_upto_region 16 with fail
    obtain ⟨X, W, hT, hI⟩ := class_mk (fun w' => Below w3.heap.size w3 w')
    have HCl : Hid (∀ x w', Below (W x).heap.size (W x) w' → ∃ y, w' = W y) := hid (fun x w' hb => hI _ ((hT x).trans (hb.mono (hT x).size)))
    have H0 : Hid (∃ x, w3.drew = W x) := hid (hI _ (Drew.below ⟨1, rfl⟩ _))
    have hne : Nonempty X := ⟨H0.out.choose⟩
    have Hld : Hid (∀ x, (Instr.loadAt 36 (.pointer (some ⟨p, 0, none⟩))).run Try.prog (W x) = .ok (.agg CN.toArray) (W x)) := hid (fun x => run_loadAt_mid (W x) p 0 36 CN _ (HB3.out.below (hT x)).rangeAt Try.underlying36 rfl I1.out)
    have HTT := hid hT
    clear hT hI
    refine wp_region_class_last W rfl (by kernel_rfl) (by kernel_rfl) (by kernel_rfl) H0.out ?_
    dsimp only [List.dropLast, List.getLast]
    repeat (first
      | (go_big_quiet_want; refine quiet_loadO 36 _ rfl ⟨p, 0, none⟩ rfl _ (fun w hx => by obtain ⟨x, rfl⟩ := hx; exact Hld.out x) ?_; simp only [Act.put, List.setIfInBounds_toArray, List.set_cons_succ, List.set_cons_zero]; go_big_quiet_on)
      | (go_big_quiet_step (first
        | (go_at_call 21; with_reducible exact Calls.class_of HCl.out (HStr.out _))
        | (go_at_call 54; with_reducible exact Calls.class_of HCl.out (HCls.out _)))))
    refine wpQuiet_nil ?_
    intro z
    have HP4 := hid (HP3.out.below (HTT.out z))
    generalize W z = wz at HP4 ⊢
    clear Hld HTT H0 HCl
    go_wp2_with (refine wpList_store_blk rfl 81 _ _ rfl pA rfl _ rfl HP4.out.ba rfl IA.out (one8 rfl rfl rfl rfl rfl rfl rfl rfl) ?_; intro w9 HB9 HU9)
    exact bodyPost_ret (results_blk Try.results48 rfl (by exact aggAns) HB9.out) rfl ⟨⟨_, rfl, rfl, one8 rfl rfl rfl rfl rfl rfl rfl rfl⟩, HP4.out.fin HU9.out hwA hAW⟩
  have d2 : (kind == 2) = false := by simp; omega
  by_cases k3 : kind = 3
  · as_aux_lemma =>
    subst k3
    have HHs := hid (hashBytes_walk aa an ac la w1 (HRa.out.upd HP0.out.upd Hag.out))
    obtain ⟨H, hH⟩ : ∃ H, hashL 2166136261 la = H := ⟨_, rfl⟩
    rw [hH] at HHs
    go_wp2_with fail
    refine (HHs.out).mono ?_
    rintro e w2 ⟨rfl, rfl⟩
    go_wp2_with (refine wpList_store_blk rfl 81 _ _ rfl pA rfl _ rfl HP0.out.ba rfl IA.out (one8 rfl rfl rfl rfl rfl rfl rfl rfl) ?_; intro w9 HB9 HU9)
    exact bodyPost_ret (results_blk Try.results48 rfl (by exact aggAns) HB9.out) rfl ⟨⟨_, rfl, rfl, one8 rfl rfl rfl rfl rfl rfl rfl rfl⟩, HP0.out.fin HU9.out hwA hAW⟩
  have d3 : (kind == 3) = false := by simp; omega
  by_cases k4 : kind = 4
  · as_aux_lemma =>
    subst k4
    have HCm := hid (compareBytes_walk aa ba an ac bn bc la lb w1 (HRa.out.upd HP0.out.upd Hag.out) (HRb.out.upd HP0.out.upd Hbg.out))
    obtain ⟨H, hH⟩ : ∃ H, cmpL la lb = H := ⟨_, rfl⟩
    rw [hH] at HCm
    go_wp2_with fail
    refine (HCm.out).mono ?_
    rintro e w2 ⟨rfl, hb2⟩
    have HP2 := hid (HP0.out.below (hb2.below _))
    clear hb2 HCm
    go_wp2_with (refine wpList_store_blk rfl 81 _ _ rfl pA rfl _ rfl HP2.out.ba rfl IA.out (one8 rfl rfl rfl rfl rfl rfl rfl rfl) ?_; intro w9 HB9 HU9)
    exact bodyPost_ret (results_blk Try.results48 rfl (by exact aggAns) HB9.out) rfl ⟨⟨_, rfl, rfl, one8 rfl rfl rfl rfl rfl rfl rfl rfl⟩, HP2.out.fin HU9.out hwA hAW⟩
  have d4 : (kind == 4) = false := by simp; omega
  by_cases k5 : kind = 5
  · as_aux_lemma =>
    subst k5
    have HPa2 := hid (parse_walk aa an ac la _ (HRa.out.upd HP0.out.upd Hag.out))
    go_wp2_with fail
    refine (HPa2.out).mono ?_
    rintro e w2 ⟨hb2, hcase⟩
    have HP2 := hid (HP0.out.below hb2)
    have HBe2 := hid hb2
    clear hb2 HPa2
    rcases hcase with ⟨code, hc, rfl⟩ | ⟨g2, ds2, sp2, hg2, rfl, hbg2, hpo2⟩
    · as_aux_lemma =>
      have dc : (code != 0) = true := by simpa using hc
      go_wp2_with (refine wpList_store_blk rfl 81 _ _ rfl pA rfl _ rfl HP2.out.ba rfl IA.out (one8 rfl rfl rfl rfl rfl rfl rfl rfl) ?_; intro w9 HB9 HU9)
      exact bodyPost_ret (results_blk Try.results48 rfl (by exact aggAns) HB9.out) rfl ⟨⟨_, rfl, rfl, one8 rfl rfl rfl rfl rfl rfl rfl rfl⟩, HP2.out.fin HU9.out hwA hAW⟩
    have HG2 := hid hbg2
    have HO2 := hid hpo2
    clear hbg2 hpo2
    have o2b : w2.cell? ⟨pO, 2, none⟩ = some (.slice ba bn bc) := by rw [HP2.out.bo.cell, ← HOc.out]; rfl
    have HPa3 := hid (parse_walk ba bn bc lb _ (HRb.out.upd HP2.out.upd Hbg.out))
    go_wp2_with fail
    refine (HPa3.out).mono ?_
    rintro e w3 ⟨hb2, hcase⟩
    have HP3 := hid (HP2.out.below hb2)
    have HBe3 := hid hb2
    clear hb2 HPa3
    rcases hcase with ⟨code, hc, rfl⟩ | ⟨g3, ds3, sp3, hg3, rfl, hbg3, hpo3⟩
    · as_aux_lemma =>
      have dc : (code != 0) = true := by simpa using hc
      go_wp2_with (refine wpList_store_blk rfl 81 _ _ rfl pA rfl _ rfl HP3.out.ba rfl IA.out (one8 rfl rfl rfl rfl rfl rfl rfl rfl) ?_; intro w9 HB9 HU9)
      exact bodyPost_ret (results_blk Try.results48 rfl (by exact aggAns) HB9.out) rfl ⟨⟨_, rfl, rfl, one8 rfl rfl rfl rfl rfl rfl rfl rfl⟩, HP3.out.fin HU9.out hwA hAW⟩
    have HG3 := hid hbg3
    have HO3 := hid hpo3
    clear hbg3 hpo3
    have HGa := hid (HG2.out.below HBe3.out)
    have HAb := hid (abs_walk g2 0 63 ds2 la sp2 w3 HGa.out HO2.out)
    have HNa := hid (names_walk g2 ds2 la sp2 w3 HGa.out HO2.out)
    clear o2b
    go_wp2_with fail
    refine (HAb.out).mono ?_
    rintro e w4 ⟨⟨bb, rfl, _⟩, rfl⟩
    clear HAb
    go_wp2_with fail
    refine (HNa.out).mono ?_
    rintro e w5 ⟨v5, ns5, rfl, hl5, hn5⟩
    have HN5 := hid hn5
    have HNb := hid (names_walk g3 ds3 lb sp3 w5 (HG3.out.below hn5.bel) HO3.out)
    clear hn5 HNa
    go_wp2_with fail
    refine (HNb.out).mono ?_
    rintro e w6 ⟨v6, ns6, rfl, hl6, hn6⟩
    have HN5b := hid (HN5.out.below hn6.bel)
    obtain ⟨a6, n6, c6, rfl, hn6l, hr6⟩ := hn6.row (by omega)
    have HOk6 := hid hn6.ok
    have HSrc : Hid (∀ ad, a6 = some ad → ∀ j u, (ns6.flatMap nameC)[j]? = some u → w6.cell? (ad.add j) = some u) := hid (by
      rw [flat_T ns6 (fun x hx => (hn6.ok x hx).nm.le)]
      exact hr6.cells (by omega) nameT_len)
    have HNil : Hid (a6 = none → n6 = 0 ∧ c6 = 0) := hid (fun h => by
      rcases hn6.own.2 with ⟨h1, h2⟩ | ⟨g, cap, cur, h1, _⟩
      · injection h1 with _ h3 h4; exact ⟨h3, h4⟩
      · injection h1 with h3; rw [h] at h3; cases h3)
    have hFl : (ns6.flatMap nameC).length = n6 * 33 := by rw [hn6l]; exact flat_len hn6.ok
    obtain ⟨i0, hii, hz0, hz1, hz2⟩ := info_nm
    have HI := hid (And.intro hii (And.intro hz0 (And.intro hz1 hz2)))
    have Hn6l := hid hn6l
    have hbb : (ns5.length + n6) * 33 ≤ 140737488355328 := by omega
    have hbs : w4.heap.size ≤ w6.heap.size := HN5b.out.bel.size
    clear hn6 hr6 HNb hii hz0 hz1 hz2 hn6l
    go_wp2_with (at_builtin; refine wpList_append_row _ rfl (.tmp 130) (.tmp 132) 49 rfl w4.heap.size 36 i0 (.agg (nameC []).toArray) 33 33 Try.underlying49 HI.out.1 HI.out.2.1 HI.out.2.2.1 HI.out.2.2.2 rfl (by decide) _ _ _ rfl HN5b.out.own a6 n6 c6 (ns6.flatMap nameC) rfl hFl HNil.out HSrc.out flat_one hbb (by decide) hbs ?_; intro v8 w8 hown8 hb8 hk8 hg8; have HOw8 := hid hown8; have HB8 := hid hb8; clear hown8 hb8 hk8 hg8)
    have HN8 : Hid (Nr w4 v8 (ns5 ++ ns6) w8) := hid (nr_app HN5b.out HOk6.out (by rw [← Hn6l.out]; exact HOw8.out) HB8.out)
    have hl8 : (ns5 ++ ns6).length ≤ 256 := by rw [List.length_append]; omega
    have HNd := hid (pndir_walk g3 0 63 ds3 lb sp3 w8 (HG3.out.below HN8.out.bel) HO3.out)
    clear HOw8 HB8 HSrc HNil hFl HN5 HN5b
    refine (HNd.out).mono ?_
    rintro e w10 ⟨⟨nd, rfl, _⟩, hb10⟩
    have HN10 := hid (HN8.out.below hb10)
    clear hb10 HNd HN8
    obtain ⟨ax, nx, cx, rfl, hnx, hrx⟩ := HN10.out.row (by omega)
    have HBd := hid (build_walk bb nd ax nx cx (ns5 ++ ns6) w10 hrx HN10.out.ok (by omega))
    have HP10 := hid (HP3.out.below HN10.out.bel)
    clear hrx hnx
    go_wp2_with fail
    refine (HBd.out).mono ?_
    rintro e w11 ⟨v11, code, rfl, hab⟩
    have HP11 := hid (HP10.out.below hab.bel)
    obtain ⟨st, hst⟩ := hab.str (by omega)
    clear hab HBd
    go_wp2_with (refine wpList_store_blk rfl 81 _ _ rfl pA rfl _ rfl HP11.out.ba rfl IA.out (one8 rfl rfl rfl rfl rfl rfl rfl rfl) ?_; intro w9 HB9 HU9)
    exact bodyPost_ret (results_blk Try.results48 rfl (by exact aggAns) HB9.out) rfl ⟨⟨_, rfl, rfl, one8 rfl rfl rfl rfl rfl rfl rfl rfl⟩, HP11.out.fin HU9.out hwA hAW⟩
  have d5 : (kind == 5) = false := by simp; omega
  by_cases k6 : kind = 6
  · as_aux_lemma =>
    subst k6
    have HPa2 := hid (parse_walk aa an ac la _ (HRa.out.upd HP0.out.upd Hag.out))
    go_wp2_with fail
    refine (HPa2.out).mono ?_
    rintro e w2 ⟨hb2, hcase⟩
    have HP2 := hid (HP0.out.below hb2)
    have HBe2 := hid hb2
    clear hb2 HPa2
    rcases hcase with ⟨code, hc, rfl⟩ | ⟨g2, ds2, sp2, hg2, rfl, hbg2, hpo2⟩
    · as_aux_lemma =>
      have dc : (code != 0) = true := by simpa using hc
      go_wp2_with (refine wpList_store_blk rfl 81 _ _ rfl pA rfl _ rfl HP2.out.ba rfl IA.out (one8 rfl rfl rfl rfl rfl rfl rfl rfl) ?_; intro w9 HB9 HU9)
      exact bodyPost_ret (results_blk Try.results48 rfl (by exact aggAns) HB9.out) rfl ⟨⟨_, rfl, rfl, one8 rfl rfl rfl rfl rfl rfl rfl rfl⟩, HP2.out.fin HU9.out hwA hAW⟩
    have HG2 := hid hbg2
    have HO2 := hid hpo2
    clear hbg2 hpo2
    have HSp := hid (splitLast_walk g2 0 63 ds2 la sp2 w2 HG2.out HO2.out)
    go_wp2_with fail
    refine (HSp.out).mono ?_
    rintro e w3 hsp3
    obtain ⟨v3, C, ok, rfl, hC, hone, hok⟩ := hsp3.out
    have HP3 := hid (HP2.out.below hsp3.bel)
    have HOn := hid hone
    have HOk := hid hok
    have I1 : Hid ((Try.prog.info? 40).map (·.size) = some C.length) := hid (by rw [hC]; exact info_comp)
    have L1 : Hid ((compC [] 0 0 false false).length = C.length) := hid (by rw [hC]; rfl)
    clear hsp3 hone hok HSp
    obtain ⟨q, hq⟩ : ∃ q, w3.heap.size = q := ⟨_, rfl⟩
    have hbn := Blk.new w3 (compC [] 0 0 false false) 40
    rw [hq] at hbn
    have HBn := hid hbn
    clear hbn
    go_upto_region 35 with (refine wpList_store_blk rfl 40 _ _ rfl q rfl C rfl HBn.out L1.out I1.out HOn.out ?_; intro w4 HB4 HU4)
    have HBe4 : Hid (Below w3.heap.size w3 w4) := hid ((nbel w3 _).trans (HU4.out.below (by omega) (by simp)))
    have HP4 := hid (HP3.out.below HBe4.out)
    clear HU4 HBn
    cases ok with
    | false =>
      as_aux_lemma =>
      go_wp2_with (refine wpList_store_blk rfl 81 _ _ rfl pA rfl _ rfl HP4.out.ba rfl IA.out (one8 rfl rfl rfl rfl rfl rfl rfl rfl) ?_; intro w9 HB9 HU9)
      exact bodyPost_ret (results_blk Try.results48 rfl (by exact aggAns) HB9.out) rfl ⟨⟨_, rfl, rfl, one8 rfl rfl rfl rfl rfl rfl rfl rfl⟩, HP4.out.fin HU9.out hwA hAW⟩
    | true =>
    as_aux_lemma =>
    obtain ⟨hab, nm, cls, hh, nd, lz, hnm, hCe⟩ := HOk.out rfl
    obtain ⟨ax, nx, cx, bx, rfl, hrow⟩ := (hab.below HBe4.out).row (by omega)
    have HRow := hid hrow
    have HPc := hid (fun w => piece_walk nm hnm cls hh nd lz w)
    rw [← hCe] at HPc
    unfold pieceC at HPc
    clear hab hrow hCe HOk
    go_upto_region 37 with fail
    refine wp_region_heavy (fun w' => Below w4.heap.size w4 w') 5 [0, 1, 2] [3, 4] rfl (by kernel_rfl) (by kernel_rfl) (fun d _ _ _ _ h => by cases d <;> exact h) (Drew.below ⟨1, rfl⟩ _) ?_
    apply Exists.intro
    refine ⟨?_, ?_⟩
    · intro W hW
      have hcv : ∀ x, (convert 26 9 (.slice ax nx cx)).run Try.prog (W x) = .ok (.string (strOfNums (bx.map Int.ofNat))) (W x) := fun x => (HRow.out.below (hW x)).str
      have Hld : Hid (∀ x, (Instr.loadAt 40 (.pointer (some ⟨q, 0, none⟩))).run Try.prog (W x) = .ok (.agg C.toArray) (W x)) := hid (fun x => run_loadAt_mid (W x) q 0 40 C _ (HB4.out.below (hW x)).rangeAt Try.underlying40 rfl I1.out)
      clear hW
      simp only [List.take, opsAt, List.drop, List.cons_append, List.nil_append]
      repeat (first
        | (go_big_quiet_want; refine quiet_loadO 40 _ rfl ⟨q, 0, none⟩ rfl _ (fun w hx => by obtain ⟨x, rfl⟩ := hx; exact Hld.out x) ?_; simp only [Act.put, List.setIfInBounds_toArray, List.set_cons_succ, List.set_cons_zero]; go_big_quiet_on)
        | (go_big_quiet_step (fail)))
      exact rfl
    simp only [List.take, List.drop, opsAt, List.cons_append, List.nil_append, wpHv]
    have HB0 : Hid (Below w4.heap.size w4 w4.drew) := hid (Drew.below ⟨1, rfl⟩ _)
    generalize w4.drew = wd at HB0 ⊢
    go_wp2_with fail
    refine (HPc.out _).mono ?_
    rintro e w5 ⟨rfl, hb5⟩
    have HB5 := hid (HB0.out.trans (hb5.mono HB0.out.size))
    clear hb5
    go_wp2_with fail
    refine ⟨HB5.out, ?_⟩
    go_wp2_with fail
    refine ⟨HB5.out.trans ((nbel w5 _).mono HB5.out.size), ?_⟩
    simp only [QN]
    have HP6 := hid (HP4.out.below (HB5.out.trans ((nbel w5 (.cells #[.string (strL nm), .int .u8 cls, .bool nd, .bool lz] 109)).mono HB5.out.size)))
    go_wp2_with (refine wpList_store_blk rfl 81 _ _ rfl pA rfl _ rfl HP6.out.ba rfl IA.out (one8 rfl rfl rfl rfl rfl rfl rfl rfl) ?_; intro w9 HB9 HU9)
    exact bodyPost_ret (results_blk Try.results48 rfl (by exact aggAns) HB9.out) rfl ⟨⟨_, rfl, rfl, one8 rfl rfl rfl rfl rfl rfl rfl rfl⟩, HP6.out.fin HU9.out hwA hAW⟩
  have d6 : (kind == 6) = false := by simp; omega
  by_cases k7 : kind = 7
  · as_aux_lemma =>
    subst k7
    have HPa2 := hid (parse_walk aa an ac la _ (HRa.out.upd HP0.out.upd Hag.out))
    go_wp2_with fail
    refine (HPa2.out).mono ?_
    rintro e w2 ⟨hb2, hcase⟩
    have HP2 := hid (HP0.out.below hb2)
    have HBe2 := hid hb2
    clear hb2 HPa2
    rcases hcase with ⟨code, hc, rfl⟩ | ⟨g2, ds2, sp2, hg2, rfl, hbg2, hpo2⟩
    · as_aux_lemma =>
      have dc : (code != 0) = true := by simpa using hc
      go_wp2_with (refine wpList_store_blk rfl 81 _ _ rfl pA rfl _ rfl HP2.out.ba rfl IA.out (one8 rfl rfl rfl rfl rfl rfl rfl rfl) ?_; intro w9 HB9 HU9)
      exact bodyPost_ret (results_blk Try.results48 rfl (by exact aggAns) HB9.out) rfl ⟨⟨_, rfl, rfl, one8 rfl rfl rfl rfl rfl rfl rfl rfl⟩, HP2.out.fin HU9.out hwA hAW⟩
    have HG2 := hid hbg2
    have HO2 := hid hpo2
    clear hbg2 hpo2
    have HNa := hid (names_walk g2 ds2 la sp2 w2 HG2.out HO2.out)
    go_wp2_with fail
    refine (HNa.out).mono ?_
    rintro e w3 ⟨v3, ns3, rfl, hl3, hn3⟩
    obtain ⟨a3, n3, c3, rfl, hn128, hso⟩ := sort_any hn3 hl3
    have HSo := hid hso
    clear hn3 hso HNa
    go_wp2_with fail
    refine (HSo.out).mono ?_
    rintro e w4 ⟨rfl, hb4, hrd⟩
    have HP4 := hid (HP2.out.below hb4)
    have HRd := hid hrd
    have HA0 := hid (Ab.nil w4)
    clear hb4 hrd HSo
    go_wp2_with fail
    go_loopw [23, 188] (fun v i wr => ∃ (k : Nat), k ≤ n3 ∧ i = .int .i64 k ∧ Hid (Ab w4 v (40 * k) wr)) (fun _ i _ => n3 - (intOf i).toNat)
    case atStart => exact ⟨0, by omega, rfl, HA0⟩
    case round =>
      clear HA0
      obtain ⟨k, hk, rfl, HA⟩ := hrel
      by_cases hlt : k < n3
      rotate_left
      · as_aux_lemma =>
        have dk : decide ((k : Int) < (n3 : Int)) = false := decide_eq_false (by omega)
        have HP5 := hid (HP4.out.below HA.out.bel)
        obtain ⟨st, hst⟩ := HA.out.str (by omega)
        go_wp2_with (refine wpList_store_blk rfl 81 _ _ rfl pA rfl _ rfl HP5.out.ba rfl IA.out (one8 rfl rfl rfl rfl rfl rfl rfl rfl) ?_; intro w9 HB9 HU9)
        exact bodyPost_ret (results_blk Try.results48 rfl (by exact aggAns) HB9.out) rfl ⟨⟨_, rfl, rfl, one8 rfl rfl rfl rfl rfl rfl rfl rfl⟩, HP5.out.fin HU9.out hwA hAW⟩
      as_aux_lemma =>
      obtain ⟨x, hgx, b3, off3, rfl, hb3, hrg⟩ := (HRd.out.below HA.out.bel).get k hlt
      have HAp : Hid (∀ w' v N, Ab w4 v N w' → N ≤ 1000000 → Calls Try.prog 60 #[.agg (nameC x).toArray, v] w' fun e w'' => ∃ v', e = .returned v' ∧ Ab w4 v' (N + 32) w'') := hid (fun w' v N h hN => appendTo_ab x hgx.nm w4 w' v N h hN)
      obtain ⟨CA, hCA⟩ : ∃ CA, nameC x = CA := ⟨_, rfl⟩
      have hC33 : CA.length = 33 := by rw [← hCA]; exact nameC_len hgx.nm.le
      have HOn : Hid (∀ v ∈ CA, v.oneCell' = true) := hid (by rw [← hCA]; exact one_name x)
      have I1 : Hid ((Try.prog.info? 36).map (·.size) = some CA.length) := hid (by rw [hC33]; exact info_name)
      have L1 : Hid ((nameC []).length = CA.length) := hid (by rw [hC33]; rfl)
      rw [hCA] at hrg HAp
      have HRg := hid hrg
      clear hrg hgx hCA
      have dk : decide ((k : Int) < (n3 : Int)) = true := decide_eq_true (by omega)
      have i3 : (k : Int) < (n3 : Int) := by omega
      obtain ⟨p, hp⟩ : ∃ p, wr.heap.size = p := ⟨_, rfl⟩
      have hbn := Blk.new wr (nameC []) 36
      rw [hp] at hbn
      have HBn := hid hbn
      clear hbn
      go_upto_region 48 with (first
        | (refine wpList_load_mid rfl 36 _ rfl b3 (off3 + k * 33) rfl CA _ HRg.out Try.underlying36 rfl I1.out ?_)
        | (refine wpList_store_blk rfl 36 _ _ rfl p rfl CA rfl HBn.out L1.out I1.out HOn.out ?_; intro w5 HB5 HU5))
      have HS1 : Hid (Abn w4 _ (40 * k) p CA w5) := hid ⟨HA.out.below ((nbel wr _).trans (HU5.out.below (by omega) (by simp))), HB5.out⟩
      clear HBn HRg HU5 HB5 HA
      go_upto_if 194 with fail
      go_cut [23] from 193 to 197 (fun v wc => Hid (Abn w4 v (40 * k + 1) p CA wc))
      case first =>
        as_aux_lemma =>
        by_cases hk0 : k = 0
        · subst hk0
          go_wp2_with fail
          go_meet
          case rel => exact hid ⟨HS1.out.ab.mono (by omega), HS1.out.bp⟩
        · have d0 : decide ((0 : Int) < (k : Int)) = true := decide_eq_true (by omega)
          have HS2 := hid (HS1.out.below (nbel w5 (.cells #[.int .u8 47] 5)))
          have hbb : (40 * k) + 1 ≤ 140737488355328 := by omega
          have Hne := hid (HS2.out.ab.ne HS2.out.bp (by decide))
          go_wp2_with (at_builtin; refine wpList_app_ab rfl (.tmp 195) (.tmp 196) rfl w4 _ _ (40 * k) [47] rfl HS2.out.ab (some ⟨w5.heap.size, 0, none⟩) 1 1 rfl rfl (fun h => by cases h) (by simp) (new47 w5 47 _ rfl) hbb ?_; intro v8 w8 HA8 HK8)
          go_meet
          case rel => exact hid ⟨HA8.out, HK8.out.blk HS2.out.bp Hne.out⟩
      case rest =>
      have HS3 := hcut
      clear hcut HS1
      go_wp2_with (refine wpList_load_blk rfl 36 _ rfl p rfl CA HS3.out.bp _ Try.underlying36 rfl I1.out ?_)
      refine (HAp.out _ _ _ HS3.out.ab (by omega)).mono ?_
      rintro e w6 ⟨v6, rfl, ha6⟩
      have HA6 := hid ha6
      clear ha6 HS3
      go_wp2
      exact ⟨⟨k + 1, by omega, by go_num, hid (HA6.out.mono (by omega))⟩, by simp [intOf]; omega⟩
  have d7 : (kind == 7) = false := by simp; omega
  by_cases k8 : kind = 8
  · as_aux_lemma =>
    subst k8
    go_upto_region 54 with fail
    have HP1 : Hid (Pl w pW t S pO pA oc w1.drew) := hid (HP0.out.below (Drew.below ⟨1, rfl⟩ _))
    refine wp_region_hlh (fun w' => w'.cell? ⟨pO, 1, none⟩ = some (.slice aa an ac)) 10 [0, 1, 2, 3, 4] [5] [6, 7, 8, 9] [] rfl (by kernel_rfl) (by kernel_rfl) (fun d _ _ _ _ h => by cases d <;> exact h) o1 ?_
    apply Exists.intro
    refine ⟨?_, ?_⟩
    · intro W hW
      simp only [List.take, opsAt, List.drop, List.cons_append, List.nil_append]
      repeat (go_big_quiet_step (fail))
      exact rfl
    simp only [List.take, List.drop, opsAt, List.cons_append, List.nil_append, wpHvK]
    generalize w1.drew = wd at HP1 ⊢
    obtain ⟨cs1, hcs1, hks1⟩ := HP1.out.a
    have HSt := hid (start_walk pW t cs1 S wd hcs1 hks1 aa an ac la (HRa.out.upd HP1.out.upd Hag.out) Hag.out)
    clear hcs1 hks1
    go_wp2_with fail
    refine (HSt.out).mono ?_
    rintro e w5 hp5
    obtain ⟨⟨ab, code, ds, S5, rfl, hd5, hk5, hl5, hs5, ht5, hc5⟩, hu5⟩ := hp5
    have HP5 : Hid (Pl w pW t S5 pO pA oc w5) := hid (HP1.out.updW hu5 ⟨ds, hd5, hk5⟩ (start_inv hl5 hs5 ht5 hc5) hOW hAW)
    clear hd5 hk5 hl5 hs5 ht5 hc5 hu5
    clear HSt
    go_wp2_with fail
    refine ⟨(by show w5.cell? ⟨pO, 1, none⟩ = some (.slice aa an ac); rw [HP5.out.bo.cell, ← HOc.out]; rfl), ?_⟩
    apply Exists.intro
    refine ⟨?_, ?_⟩
    · intro W hW
      clear hW
      try simp only [List.take, opsAt, List.drop, List.cons_append, List.nil_append]
      repeat (go_big_quiet_step (fail))
      exact rfl
    simp only [List.take, List.drop, opsAt, List.cons_append, List.nil_append, wpHv, QN]
    go_wp2_with (refine wpList_store_blk rfl 81 _ _ rfl pA rfl _ rfl HP5.out.ba rfl IA.out (one8 rfl rfl rfl rfl rfl rfl rfl rfl) ?_; intro w9 HB9 HU9)
    exact bodyPost_ret (results_blk Try.results48 rfl (by exact aggAns) HB9.out) rfl ⟨⟨_, rfl, rfl, one8 rfl rfl rfl rfl rfl rfl rfl rfl⟩, HP5.out.fin HU9.out hwA hAW⟩
  have d8 : (kind == 8) = false := by simp; omega
  by_cases k9 : kind = 9
  · as_aux_lemma =>
    subst k9
    obtain ⟨cs1, hcs1, hks1⟩ := HP0.out.a
    obtain ⟨C, b, S2, HG, hN⟩ := next_view hks1 HP0.out.inv
    have HNx := hid (hN pW t cs1 w1 hcs1 hks1).1
    have HPc : Hid (b = true → ∃ st cls nd lz, ∀ w, Calls Try.prog 58 #[.agg C.toArray] w fun e w' => e = .returned (.agg #[.string st, .int .u8 cls, .bool nd, .bool lz]) ∧ Below w.heap.size w w') := hid (fun hbt => by
      cases HG.v with
      | none h1 h2 h3 h4 => rw [h2] at hbt; cases hbt
      | some n h1 h2 h3 h4 h5 =>
        have hm : n ∈ topN S.lv 0 := by rw [h1]; simp
        have hnm : NmOk n := ⟨((nms_ok hks1).ok n hm).2.2, nms_b hks1 n hm⟩
        rw [h3]
        exact ⟨_, _, _, _, fun w => piece_walk n hnm _ _ _ _ w⟩)
    have hC := HG.len
    have HOn := hid HG.one
    have HInv := hid HG.inv
    have I1 : Hid ((Try.prog.info? 40).map (·.size) = some C.length) := hid (by rw [hC]; exact info_comp)
    have L1 : Hid ((compC [] 0 0 false false).length = C.length) := hid (by rw [hC]; rfl)
    clear hcs1 hks1 HG hN
    go_wp2_with fail
    refine (HNx.out).mono ?_
    rintro e w3 ⟨rfl, hu3, hd3⟩
    have HP3 := hid (HP0.out.updW hu3 hd3 HInv.out hOW hAW)
    clear hu3 hd3
    clear HNx
    obtain ⟨q, hq⟩ : ∃ q, w3.heap.size = q := ⟨_, rfl⟩
    have hbn := Blk.new w3 (compC [] 0 0 false false) 40
    rw [hq] at hbn
    have HBn := hid hbn
    clear hbn
    go_upto_region 58 with (refine wpList_store_blk rfl 40 _ _ rfl q rfl C rfl HBn.out L1.out I1.out HOn.out ?_; intro w4 HB4 HU4)
    have HP4 := hid (HP3.out.below ((nbel w3 _).trans (HU4.out.below (by omega) (by simp))))
    clear HU4 HBn
    cases b with
    | false =>
      as_aux_lemma =>
      go_wp2_with (refine wpList_store_blk rfl 81 _ _ rfl pA rfl _ rfl HP4.out.ba rfl IA.out (one8 rfl rfl rfl rfl rfl rfl rfl rfl) ?_; intro w9 HB9 HU9)
      exact bodyPost_ret (results_blk Try.results48 rfl (by exact aggAns) HB9.out) rfl ⟨⟨_, rfl, rfl, one8 rfl rfl rfl rfl rfl rfl rfl rfl⟩, HP4.out.fin HU9.out hwA hAW⟩
    | true =>
    as_aux_lemma =>
    obtain ⟨st, cls, nd, lz, hpc⟩ := HPc.out rfl
    have HPc2 := hid hpc
    clear hpc HPc
    go_wp2_with (refine wpList_load_blk rfl 40 _ rfl q rfl C HB4.out _ Try.underlying40 rfl I1.out ?_)
    refine (HPc2.out _).mono ?_
    rintro e w5 ⟨rfl, hb5⟩
    have HP5 := hid ((HP4.out.below hb5).below (nbel w5 (.cells #[.string st, .int .u8 cls, .bool nd, .bool lz] 109)))
    clear hb5
    go_wp2_with (refine wpList_store_blk rfl 81 _ _ rfl pA rfl _ rfl HP5.out.ba rfl IA.out (one8 rfl rfl rfl rfl rfl rfl rfl rfl) ?_; intro w9 HB9 HU9)
    exact bodyPost_ret (results_blk Try.results48 rfl (by exact aggAns) HB9.out) rfl ⟨⟨_, rfl, rfl, one8 rfl rfl rfl rfl rfl rfl rfl rfl⟩, HP5.out.fin HU9.out hwA hAW⟩
  have d9 : (kind == 9) = false := by simp; omega
  by_cases k11 : kind = 11
  · as_aux_lemma =>
    subst k11
    obtain ⟨cs1, hcs1, hks1⟩ := HP0.out.a
    obtain ⟨C, b, S2, HG, hN⟩ := next_view hks1 HP0.out.inv
    have HNx := hid (hN pW t cs1 w1 hcs1 hks1).2
    have HPc : Hid (b = true → ∃ st cls nd lz, ∀ w, Calls Try.prog 58 #[.agg C.toArray] w fun e w' => e = .returned (.agg #[.string st, .int .u8 cls, .bool nd, .bool lz]) ∧ Below w.heap.size w w') := hid (fun hbt => by
      cases HG.v with
      | none h1 h2 h3 h4 => rw [h2] at hbt; cases hbt
      | some n h1 h2 h3 h4 h5 =>
        have hm : n ∈ topN S.lv 0 := by rw [h1]; simp
        have hnm : NmOk n := ⟨((nms_ok hks1).ok n hm).2.2, nms_b hks1 n hm⟩
        rw [h3]
        exact ⟨_, _, _, _, fun w => piece_walk n hnm _ _ _ _ w⟩)
    have hC := HG.len
    have HOn := hid HG.one
    have HInv := hid HG.inv
    have I1 : Hid ((Try.prog.info? 40).map (·.size) = some C.length) := hid (by rw [hC]; exact info_comp)
    have L1 : Hid ((compC [] 0 0 false false).length = C.length) := hid (by rw [hC]; rfl)
    clear hcs1 hks1 HG hN
    go_wp2_with fail
    refine (HNx.out).mono ?_
    rintro e w3 ⟨rfl, hb3⟩
    have HP3 := hid (HP0.out.below hb3)
    clear hb3
    clear HNx
    obtain ⟨q, hq⟩ : ∃ q, w3.heap.size = q := ⟨_, rfl⟩
    have hbn := Blk.new w3 (compC [] 0 0 false false) 40
    rw [hq] at hbn
    have HBn := hid hbn
    clear hbn
    go_upto_region 62 with (refine wpList_store_blk rfl 40 _ _ rfl q rfl C rfl HBn.out L1.out I1.out HOn.out ?_; intro w4 HB4 HU4)
    have HP4 := hid (HP3.out.below ((nbel w3 _).trans (HU4.out.below (by omega) (by simp))))
    clear HU4 HBn
    cases b with
    | false =>
      as_aux_lemma =>
      go_wp2_with (refine wpList_store_blk rfl 81 _ _ rfl pA rfl _ rfl HP4.out.ba rfl IA.out (one8 rfl rfl rfl rfl rfl rfl rfl rfl) ?_; intro w9 HB9 HU9)
      exact bodyPost_ret (results_blk Try.results48 rfl (by exact aggAns) HB9.out) rfl ⟨⟨_, rfl, rfl, one8 rfl rfl rfl rfl rfl rfl rfl rfl⟩, HP4.out.fin HU9.out hwA hAW⟩
    | true =>
    as_aux_lemma =>
    obtain ⟨st, cls, nd, lz, hpc⟩ := HPc.out rfl
    have HPc2 := hid hpc
    clear hpc HPc
    go_wp2_with (refine wpList_load_blk rfl 40 _ rfl q rfl C HB4.out _ Try.underlying40 rfl I1.out ?_)
    refine (HPc2.out _).mono ?_
    rintro e w5 ⟨rfl, hb5⟩
    have HP5 := hid ((HP4.out.below hb5).below (nbel w5 (.cells #[.string st, .int .u8 cls, .bool nd, .bool lz] 109)))
    clear hb5
    go_wp2_with (refine wpList_store_blk rfl 81 _ _ rfl pA rfl _ rfl HP5.out.ba rfl IA.out (one8 rfl rfl rfl rfl rfl rfl rfl rfl) ?_; intro w9 HB9 HU9)
    exact bodyPost_ret (results_blk Try.results48 rfl (by exact aggAns) HB9.out) rfl ⟨⟨_, rfl, rfl, one8 rfl rfl rfl rfl rfl rfl rfl rfl⟩, HP5.out.fin HU9.out hwA hAW⟩
  have d11 : (kind == 11) = false := by simp; omega
  by_cases k10 : kind = 10
  · as_aux_lemma =>
    subst k10
    go_upto_region 65 with fail
    have HP1 : Hid (Pl w pW t S pO pA oc w1.drew) := hid (HP0.out.below (Drew.below ⟨1, rfl⟩ _))
    refine wp_region_hlh (fun w' => w'.cell? ⟨pO, 1, none⟩ = some (.slice aa an ac)) 10 [0, 1, 2, 3, 4] [5] [6, 7, 8, 9] [] rfl (by kernel_rfl) (by kernel_rfl) (fun d _ _ _ _ h => by cases d <;> exact h) o1 ?_
    apply Exists.intro
    refine ⟨?_, ?_⟩
    · intro W hW
      simp only [List.take, opsAt, List.drop, List.cons_append, List.nil_append]
      repeat (go_big_quiet_step (fail))
      exact rfl
    simp only [List.take, List.drop, opsAt, List.cons_append, List.nil_append, wpHvK]
    generalize w1.drew = wd at HP1 ⊢
    obtain ⟨cs1, hcs1, hks1⟩ := HP1.out.a
    have HSt := hid (expand_walk pW t cs1 S wd hcs1 hks1 HP1.out.inv aa an ac la (HRa.out.upd HP1.out.upd Hag.out) Hag.out)
    clear hcs1 hks1
    go_wp2_with fail
    refine (HSt.out).mono ?_
    rintro e w5 hp5
    obtain ⟨⟨ab, code, ds, S5, rfl, hd5, hk5, hc5⟩, hu5⟩ := hp5
    have hinv : WInv S5 := by
      rcases hc5 with ⟨_, _, h⟩ | ⟨_, _, _, h⟩ | ⟨_, _, _, _, _, h⟩ | ⟨h1, h2, _, sp, h3, h⟩
      · rw [h]; exact HP1.out.inv
      · rw [h]; exact HP1.out.inv
      · rw [h]; exact HP1.out.inv
      · rw [h]; exact (exp_inv HP1.out.inv h1 h2 h3).1
    have HP5 : Hid (Pl w pW t S5 pO pA oc w5) := hid (HP1.out.updW hu5 ⟨ds, hd5, hk5⟩ hinv hOW hAW)
    clear hd5 hk5 hc5 hu5 hinv
    clear HSt
    go_wp2_with fail
    refine ⟨(by show w5.cell? ⟨pO, 1, none⟩ = some (.slice aa an ac); rw [HP5.out.bo.cell, ← HOc.out]; rfl), ?_⟩
    apply Exists.intro
    refine ⟨?_, ?_⟩
    · intro W hW
      clear hW
      try simp only [List.take, opsAt, List.drop, List.cons_append, List.nil_append]
      repeat (go_big_quiet_step (fail))
      exact rfl
    simp only [List.take, List.drop, opsAt, List.cons_append, List.nil_append, wpHv, QN]
    go_wp2_with (refine wpList_store_blk rfl 81 _ _ rfl pA rfl _ rfl HP5.out.ba rfl IA.out (one8 rfl rfl rfl rfl rfl rfl rfl rfl) ?_; intro w9 HB9 HU9)
    exact bodyPost_ret (results_blk Try.results48 rfl (by exact aggAns) HB9.out) rfl ⟨⟨_, rfl, rfl, one8 rfl rfl rfl rfl rfl rfl rfl rfl⟩, HP5.out.fin HU9.out hwA hAW⟩
  have d10 : (kind == 10) = false := by simp; omega
  by_cases k12 : kind = 12
  · as_aux_lemma =>
    subst k12
    go_upto_region 68 with fail
    obtain ⟨cs1, hcs1, hks1⟩ := HP0.out.a
    have hd9 := HP0.out.inv.d9
    have HLf : Hid (∀ w', Below w1.heap.size w1 w' → Calls Try.prog 31 #[.pointer (some ⟨pW, 0, none⟩)] w' fun e w'' => e = .returned (.int .i64 (leftL S.lv : Int)) ∧ Below w'.heap.size w' w'') := hid (fun w' hb => left_walk pW t cs1 S w' (hcs1.below hb) hks1 hd9)
    have HRs : Hid (∀ w', Below w1.heap.size w1 w' → Calls Try.prog 40 #[.pointer (some ⟨pW, 0, none⟩), .slice none 0 0] w' fun e w'' => ∃ v, e = .returned v ∧ As w' v (restB S.lv) w'') := hid (fun w' hb => rest_walk pW t cs1 S w' (hcs1.below hb) hks1 hd9)
    have HDn : Hid (∀ w', Below w1.heap.size w1 w' → Calls Try.prog 33 #[.pointer (some ⟨pW, 0, none⟩)] w' fun e w'' => e = .returned (.bool S.lv.isEmpty) ∧ w'' = w') := hid (fun w' hb => done_walk pW t cs1 S w' (hcs1.below hb) hks1)
    have HRB := hid (rest_bytes hks1 hd9)
    obtain ⟨lf, hlf⟩ : ∃ lf, leftL S.lv = lf := ⟨_, rfl⟩
    obtain ⟨em, hem⟩ : ∃ em, S.lv.isEmpty = em := ⟨_, rfl⟩
    obtain ⟨rb, hrb⟩ : ∃ rb, restB S.lv = rb := ⟨_, rfl⟩
    rw [hlf] at HLf
    rw [hem] at HDn
    rw [hrb] at HRs HRB
    clear hlf hem hrb hcs1 hks1
    refine wp_region_hlh (fun w' => Below w1.heap.size w1 w') 14 [0, 1, 2, 4, 5, 6, 9, 10, 11] [3, 7] [12, 13] [8] rfl (by kernel_rfl) (by kernel_rfl) (fun d _ _ _ _ h => by cases d <;> exact h) (Drew.below ⟨1, rfl⟩ _) ?_
    apply Exists.intro
    refine ⟨?_, ?_⟩
    · intro W hW
      clear hW
      simp only [List.take, opsAt, List.drop, List.cons_append, List.nil_append]
      repeat (go_big_quiet_step (fail))
      exact rfl
    simp only [List.take, List.drop, opsAt, List.cons_append, List.nil_append, wpHvK]
    have HB0 : Hid (Below w1.heap.size w1 w1.drew) := hid (Drew.below ⟨1, rfl⟩ _)
    generalize w1.drew = wd at HB0 ⊢
    go_wp2_with fail
    refine (HLf.out _ HB0.out).mono ?_
    rintro e w5 ⟨rfl, hb5⟩
    have HB5 := hid (HB0.out.trans (hb5.mono HB0.out.size))
    clear hb5 HLf
    go_wp2_with fail
    refine ⟨HB5.out, ?_⟩
    go_wp2_with fail
    refine (HRs.out _ HB5.out).mono ?_
    rintro e w6 ⟨v6, rfl, ha6⟩
    obtain ⟨ax, nx, cx, rfl, hnx0, hrow⟩ := ha6.row HRB.out.1 HRB.out.2
    clear hnx0
    have HB6 := hid (HB5.out.trans (ha6.bel.mono HB5.out.size))
    have hst := hrow.str
    clear ha6 hrow HRs
    go_wp2_with fail
    refine ⟨HB6.out, ?_⟩
    apply Exists.intro
    refine ⟨?_, ?_⟩
    · intro W hW
      have HDx : Hid (∀ x, Calls Try.prog 33 #[.pointer (some ⟨pW, 0, none⟩)] (W x) fun e w'' => e = .returned (.bool em) ∧ w'' = W x) := hid (fun x => HDn.out _ (hW x))
      clear hW
      try simp only [List.take, opsAt, List.drop, List.cons_append, List.nil_append]
      repeat (go_big_quiet_step ((go_at_call 33; with_reducible exact Calls.class_same (HDx.out _))))
      exact rfl
    simp only [List.take, List.drop, opsAt, List.cons_append, List.nil_append, wpHv, QN]
    go_wp2_with fail
    refine ⟨HB6.out, ?_⟩
    have HP6 := hid (HP0.out.below HB6.out)
    go_wp2_with (refine wpList_store_blk rfl 81 _ _ rfl pA rfl _ rfl HP6.out.ba rfl IA.out (one8 rfl rfl rfl rfl rfl rfl rfl rfl) ?_; intro w9 HB9 HU9)
    exact bodyPost_ret (results_blk Try.results48 rfl (by exact aggAns) HB9.out) rfl ⟨⟨_, rfl, rfl, one8 rfl rfl rfl rfl rfl rfl rfl rfl⟩, HP6.out.fin HU9.out hwA hAW⟩
  have d12 : (kind == 12) = false := by simp; omega
  go_wp2_with (refine wpList_store_blk rfl 81 _ _ rfl pA rfl _ rfl HP0.out.ba rfl IA.out (one8 rfl rfl rfl rfl rfl rfl rfl rfl) ?_; intro w9 HB9 HU9)
  exact bodyPost_ret (results_blk Try.results48 rfl (by exact aggAns) HB9.out) rfl ⟨⟨_, rfl, rfl, one8 rfl rfl rfl rfl rfl rfl rfl rfl⟩, HP0.out.fin HU9.out hwA hAW⟩
end Go.Proofs.Qxb6500891a
