/- AppendRefs, AppendSomeRefs, sum. -/
import Derived.Test.Qxb6500887aGreatAzQ
import Derived.Test.Qxb6500887aGreatRowL
namespace Go.Proofs.Qxb6500887aGreat
open Go.RowKit
set_option linter.unusedSimpArgs false
set_option linter.unusedVariables false

theorem stopHere {p : Prop} (h : True → p) : p := h trivial
/-- Rows of addresses. -/
def rtA : RK Nat := ⟨64, 164, 1, 8, fun x => [.int .u64 (x : Int)]⟩
theorem info_of' {P : Program} {t : TypeId} {n b : Nat} {z : Value} (h : (P.info? t).map (fun i => (i.zero, i.size, i.bytes)) = some (some z, n, b)) (hz : z.cells.size = n) : ∃ i z, P.info? t = some i ∧ i.zero = some z ∧ i.size = n ∧ i.bytes = b ∧ z.cells.size = n := by
  cases hi : P.info? t with
  | none => rw [hi] at h; cases h
  | some i =>
    rw [hi] at h
    simp only [Option.map_some, Option.some.injEq, Prod.mk.injEq] at h
    exact ⟨i, z, rfl, h.1, h.2.1, h.2.2, hz⟩
theorem okA : RKok Tryz.prog rtA := ⟨Tryz.underlying164, info_of' (z := .int .u64 0) (by kernel_rfl) rfl, by decide, by decide, fun _ => rfl, fun x u hu => by simp [rtA] at hu; subst hu; rfl⟩
theorem OwR.cut0 {α : Type} {K : RK α} {w : World} {n0 n q : Nat} {ax : Option Addr} {xs : List α} (h : OwR K n0 w (.slice ax n q) xs) : OwR K n0 w (.slice ax 0 q) [] := by
  refine ⟨by simp, ?_⟩
  rcases h.2 with ⟨h1, h2⟩ | ⟨g, cap, cur, h1, h2, h3, h4, h5, h6, h7⟩
  · left
    cases h1
    exact ⟨rfl, rfl⟩
  · right
    injection h1 with h8 h9 h0
    subst h8 h0
    exact ⟨g, q, cur, rfl, h2, h3, Nat.zero_le _, h5, h6, by simp⟩
/-- The references among the words from k on. -/
def rfsL (S : AS) (k n : Nat) : List Nat := ((List.range n).map fun i => S.W (k + i)).filter fun x => !(x == 0)
theorem rfsL_zero (S : AS) (k : Nat) : rfsL S k 0 = [] := rfl
theorem rfsL_step (S : AS) (k n : Nat) : rfsL S k (n + 1) = rfsL S k n ++ (if S.W (k + n) = 0 then [] else [S.W (k + n)]) := by
  unfold rfsL
  rw [List.range_succ, List.map_append, List.filter_append]
  congr 1
  by_cases h : S.W (k + n) = 0
  · rw [if_pos h]; simp [h]
  · rw [if_neg h]; simp [h]
theorem rfsL_len (S : AS) (k n : Nat) : (rfsL S k n).length ≤ n := by
  unfold rfsL
  refine Nat.le_trans (List.length_filter_le _ _) ?_
  simp
/-- All the words of a stretch are references. -/
def rfAll (S : AS) (k n : Nat) : Prop := ∀ i, i < n → rfOk (S.W (k + i))
/-- Inside AppendRefs: the object in block p, the row. -/
structure AR (w0 : World) (l : AL) (p : Nat) (o : Ob) (v : Value) (xs : List Nat) (w : World) : Prop where
  bel : Below w0.heap.size w0 w
  bk : Blk w p 61 (obL l o)
  row : OwR rtA w0.heap.size w v xs
section
variable {l : AL} {S : AS} {w w' w0 : World} {p q : Nat} {cs : List Value} {o : Ob} {v v' : Value} {xs ys : List Nat}
theorem AR.below (h : AR w0 l p o v xs w) (hb : Below w.heap.size w w') : AR w0 l p o v xs w' := ⟨h.bel.trans (hb.mono h.bel.size), h.bk.below hb, h.row.below hb⟩
theorem AR.app (h : AR w0 l p o v xs w) (hk : Kep w v w') (hr : OwR rtA w0.heap.size w' v' ys) : AR w0 l p o v' ys w' := ⟨h.bel.trans (hk.below h.row.hi h.bel.size), hk.keep h.bk (h.row.ne h.bk (by decide)), hr⟩
theorem AR.ps (h : AR w0 l p o v xs w) : w.cell? ⟨p, 0, none⟩ = some (.pointer (some ⟨l.a, 0, none⟩)) ∧ w.cell? ⟨p, 1, none⟩ = some (.int .i64 (o.k : Int)) ∧ w.cell? ⟨p, 2, none⟩ = some (.int .u64 (o.raw : Int)) ∧ w.cell? ⟨p, 3, none⟩ = some (.int .i64 (o.sz : Int)) ∧ w.cell? ⟨p, 4, none⟩ = some (.int .i64 (o.rf : Int)) := ⟨h.bk.cell 0, h.bk.cell 1, h.bk.cell 2, h.bk.cell 3, h.bk.cell 4⟩
/-- What AppendRefs gives for nil. -/
def ApP (l : AL) (S : AS) (o : Ob) (w : World) (v : Value) (c : Int) (w' : World) : Prop := Below w.heap.size w w' ∧ ((S.W o.k ≠ o.raw ∧ c = 6 ∧ v = .slice none 0 0) ∨ (S.W o.k = o.raw ∧ rfAll S (o.k + 1) o.rf ∧ c = 0 ∧ OwR rtA w.heap.size w' v (rfsL S (o.k + 1) o.rf)) ∨ (S.W o.k = o.raw ∧ ¬ rfAll S (o.k + 1) o.rf ∧ c = 9 ∧ OwR rtA w.heap.size w' v []))
set_option maxRecDepth 100000 in
set_option maxHeartbeats 2000000 in
theorem appendRefsZ (h : AM l S w) (ho : ObOk o) : Calls Tryz.prog 142 #[.agg #[.pointer (some ⟨l.a, 0, none⟩), .int .i64 (o.k : Int), .int .u64 (o.raw : Int), .int .i64 (o.sz : Int), .int .i64 (o.rf : Int)], .slice none 0 0] w fun e w' => ∃ (v : Value) (c : Int), e = .returned (.tuple #[v, .int .u8 c]) ∧ Hid (ApP l S o w v c w') := by
  obtain ⟨p, hp⟩ : ∃ p, w.heap.size = p := ⟨_, rfl⟩
  have HX : Hid (OX w l S p (obL l o) (w.alloc (.cells #[.pointer (some ⟨l.a, 0, none⟩), .int .i64 (o.k : Int), .int .u64 (o.raw : Int), .int .i64 (o.sz : Int), .int .i64 (o.rf : Int)] 61))) := hid (OX.new (cs := (obL l o)) h (Below.refl _ w) hp)
  have HC : Hid (∀ wz, AM l S wz → Calls Tryz.prog 208 #[.agg #[.pointer (some ⟨l.a, 0, none⟩), .int .i64 (o.k : Int), .int .u64 (o.raw : Int), .int .i64 (o.sz : Int), .int .i64 (o.rf : Int)]] wz fun e w' => e = .returned (.int .u8 (ckC S o)) ∧ Below wz.heap.size wz w') := hid (fun wz hz => checkZ hz ho)
  have HA := hid h
  have o1 := ho.s1
  have o2 := ho.s2
  have o3 := ho.rf
  have o4 := ho.k
  clear h ho
  by_cases hc : S.W o.k = o.raw
  · have e0 : ckC S o = 0 := by unfold ckC; rw [if_pos hc]
    rw [e0] at HC
    have Hc := hid hc
    clear hc e0
    go_enter Tryz.func142, Tryz.ntmps142
    go_upto_region 1 with fail
    (try simp only [hp])
    generalize hw1 : w.alloc _ = w1 at HX ⊢
    clear hw1 hp
    have p0 := HX.out.bk.cell 0
    have p1 := HX.out.bk.cell 1
    have p2 := HX.out.bk.cell 2
    have p3 := HX.out.bk.cell 3
    have p4 := HX.out.bk.cell 4
    simp only [obL, List.getElem?_cons_zero, List.getElem?_cons_succ] at p0 p1 p2 p3 p4
    go_wp2_with fail
    refine (HC.out _ HX.out.am).mono ?_
    rintro e w2 ⟨rfl, hb2⟩
    have HR0 : Hid (AR w l p o (.slice none 0 0) [] w2) := hid ⟨(HX.out.below hb2).bel, (HX.out.below hb2).bk, OwR.nil _ _ _⟩
    clear hb2 HX p0 p1 p2 p3 p4 HC
    obtain ⟨p0, p1, p2, p3, p4⟩ := HR0.out.ps
    have a0 := (HA.out.below HR0.out.bel).cells.1
    obtain ⟨n, hn⟩ : ∃ n, o.rf = n := ⟨_, rfl⟩
    obtain ⟨f, hf⟩ : ∃ f, o.k + 1 = f := ⟨_, rfl⟩
    rw [hn] at o3 p4
    have ef : (o.k : Int) + 1 = (f : Int) := by omega
    have Hn := hid hn
    have Hk := hid hf
    have hkb : f + n ≤ 32768 := by omega
    have d1 : ¬ (32768 = f) := by omega
    have e1 : f + n - f = n := by omega
    clear hn hf
    go_upto_region 6 with fail
    go_region
    go_wp2_with fail
    simp only [e1]
    clear a0 p0 p1 p2 p3 p4
    go_loopw [1, 37] (fun b u wr => ∃ (q : Nat) (ax : Option Addr) (m cp : Nat), u = .int .i64 (q : Int) ∧ b = .slice ax m cp ∧ q ≤ n ∧ Hid (AR w l p o (.slice ax m cp) (rfsL S (f) q) wr ∧ rfAll S (f) q)) (fun _ u _ => n - (intOf u).toNat)
    case atStart => exact ⟨0, none, 0, 0, rfl, rfl, Nat.zero_le _, hid ⟨HR0.out.below (Drew.below ⟨1, rfl⟩ _), fun i hi => absurd hi (Nat.not_lt_zero _)⟩⟩
    case round =>
    clear HR0
    obtain ⟨q, ax, m, cp, rfl, rfl, hq, HK⟩ := hrel
    by_cases hqn : q < n
    rotate_left
    · as_aux_lemma =>
      have dq : decide ((q : Int) < (n : Int)) = false := decide_eq_false (by omega)
      have HF : Hid (ApP l S o w (.slice ax m cp) 0 wr) := hid ⟨HK.out.1.bel, .inr (.inl ⟨Hc.out, by rw [Hk.out, Hn.out, show n = q by omega]; exact HK.out.2, rfl, by rw [Hk.out, Hn.out, show n = q by omega]; exact HK.out.1.row⟩)⟩
      clear HK
      go_wp2
      go_ret2
      exact ⟨_, 0, rfl, HF⟩
    as_aux_lemma =>
    have dq : decide ((q : Int) < (n : Int)) = true := decide_eq_true (by omega)
    have HA1 := hid (HA.out.below HK.out.1.bel)
    have cw := HA1.out.word (i := f + q) (by omega)
    have Hst := hid (rfsL_step S (f) q)
    have HCk := hid (fun wz => checkRefZ ((S.W (f + q) : Nat) : Int) wz)
    have Hall : Hid (rfOk ((S.W (f + q) : Nat) : Int) → rfAll S (f) (q + 1)) := hid (fun h1 i hi => by
      by_cases e : i = q
      · rw [e]; exact h1
      · exact HK.out.2 i (by omega))
    have Hno : Hid (¬ rfOk ((S.W (f + q) : Nat) : Int) → ¬ rfAll S (o.k + 1) o.rf) := hid (fun h1 h2 => h1 (by rw [Hk.out, Hn.out] at h2; exact h2 q hqn))
    generalize S.W (f + q) = x at *
    clear HA1
    by_cases hr : rfOk (x : Int)
    rotate_left
    · as_aux_lemma =>
      rw [if_neg hr, if_neg hr] at HCk
      have HF : Hid (ApP l S o w (.slice ax 0 cp) 9 wr) := hid ⟨HK.out.1.bel, .inr (.inr ⟨Hc.out, Hno.out hr, rfl, HK.out.1.row.cut0⟩)⟩
      have hcp : 0 ≤ cp := Nat.zero_le _
      clear hr HK Hno Hall Hst
      (go_wp2_with fail; refine (HCk.out wr).mono ?_; rintro e_ w_ ⟨he_, hw_⟩; subst he_; have hs_ := hw_.symm; clear hw_; subst hs_)
      go_wp2
      go_ret2
      exact ⟨_, 9, rfl, HF⟩
    rw [if_pos hr, if_pos hr] at HCk
    have Hall1 := hid (Hall.out hr)
    clear hr Hall Hno
    by_cases h0 : x = 0
    · as_aux_lemma =>
      have d0 : ((x : Int) == 0) = true := by simp [h0]
      have d0' : ((x : Int) != 0) = false := by simp [bne, d0]
      have HF : Hid (AR w l p o (.slice ax m cp) (rfsL S (f) (q + 1)) wr ∧ rfAll S (f) (q + 1)) := hid ⟨by rw [Hst.out, if_pos h0, List.append_nil]; exact HK.out.1, Hall1.out⟩
      clear h0
      clear HK Hst Hall1
      (go_wp2_with fail; refine (HCk.out wr).mono ?_; rintro e_ w_ ⟨he_, hw_⟩; subst he_; have hs_ := hw_.symm; clear hw_; subst hs_)
      go_wp2
      exact ⟨⟨q + 1, ax, m, cp, by go_num, rfl, by omega, HF⟩, by simp [intOf]; omega⟩
    · as_aux_lemma =>
      have d0 : ((x : Int) == 0) = false := by simp; omega
      have d0' : ((x : Int) != 0) = true := by simp [bne, d0]
      (go_wp2_with fail; refine (HCk.out wr).mono ?_; rintro e_ w_ ⟨he_, hw_⟩; subst he_; have hs_ := hw_.symm; clear hw_; subst hs_)
      go_wp2_with (at_builtin; refine stopHere ?_)
      intro _
      obtain ⟨k8, hk8⟩ : ∃ k, wr.heap.size = k := ⟨_, rfl⟩
      obtain ⟨wf, hwf⟩ : ∃ wf, wr.alloc (.cells #[.int .u64 (x : Int)] 64) = wf := ⟨_, rfl⟩
      have HJf : Hid (AR w l p o (.slice ax m cp) (rfsL S (f) q) wf) := hid (by rw [← hwf]; exact HK.out.1.below (nbel wr _))
      have HNw : Hid (∀ ad, some (⟨k8, 0, none⟩ : Addr) = some ad → ∀ j u, ([x].flatMap rtA.f)[j]? = some u → wf.cell? (ad.add j) = some u) := hid (by rw [← hwf]; exact newX rtA wr x _ hk8.symm)
      (try simp only [hwf, hk8])
      clear hwf hk8 HK
      refine wpList_app_l okA rfl _ _ HJf.out.row rfl [x] rfl (some ⟨k8, 0, none⟩) 1 1 rfl rfl (fun h => by cases h) HNw.out (by
        have h1 := rfsL_len S (f) q
        show ((rfsL S (f) q).length + 1) * 8 ≤ _
        omega) HJf.out.bel.size ?_
      intro v9 w9 hr9 hk9 hg9
      obtain ⟨a9, q9, rfl⟩ := hr9.out.shape
      have HR : Hid (AR w l p o (.slice a9 (rfsL S (f) q ++ [x]).length q9) (rfsL S (f) (q + 1)) w9 ∧ rfAll S (f) (q + 1)) := hid ⟨by rw [Hst.out, if_neg h0]; exact HJf.out.app hk9.out hr9.out, Hall1.out⟩
      generalize (rfsL S (f) q ++ [x]).length = n9 at HR ⊢
      clear HJf hr9 hk9 hg9 HNw h0 Hst Hall1
      go_wp2
      exact ⟨⟨q + 1, a9, n9, q9, by go_num, rfl, by omega, HR⟩, by simp [intOf]; omega⟩
  · have e0 : ckC S o = 6 := by unfold ckC; rw [if_neg hc]
    rw [e0] at HC
    have Hc := hid hc
    clear hc e0
    go_enter Tryz.func142, Tryz.ntmps142
    go_upto_region 1 with fail
    (try simp only [hp])
    generalize hw1 : w.alloc _ = w1 at HX ⊢
    clear hw1 hp
    have p0 := HX.out.bk.cell 0
    have p1 := HX.out.bk.cell 1
    have p2 := HX.out.bk.cell 2
    have p3 := HX.out.bk.cell 3
    have p4 := HX.out.bk.cell 4
    simp only [obL, List.getElem?_cons_zero, List.getElem?_cons_succ] at p0 p1 p2 p3 p4
    go_wp2_with fail
    refine (HC.out _ HX.out.am).mono ?_
    rintro e w2 ⟨rfl, hb2⟩
    have HF : Hid (ApP l S o w (.slice none 0 0) 6 w2) := hid ⟨(HX.out.below hb2).bel, .inl ⟨Hc.out, rfl, rfl⟩⟩
    clear hb2 HX p0 p1 p2 p3 p4 HC
    go_wp2
    go_ret2
    exact ⟨_, 6, rfl, HF⟩
end
end Go.Proofs.Qxb6500887aGreat
