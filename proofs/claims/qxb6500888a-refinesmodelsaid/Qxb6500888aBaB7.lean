/- The barrier: add, the walk. -/
import Derived.Test.Qxb6500888aBaB6
namespace Go.Proofs.Qxb6500888a
open Go.RowKit
set_option linter.unusedSimpArgs false
set_option linter.unusedVariables false

theorem allS_perm {T : BL} {m : Nat} (hm : m < 4) (s : Nat) : (allS { T with sg := fup T.sg m (T.sg m ++ [s]) }).Perm (s :: allS T) := by
  unfold allS
  dsimp only
  have h1 : ∀ (l r : List Nat), (l ++ [s] ++ r).Perm (s :: (l ++ r)) := fun l r => by rw [List.append_assoc]; exact List.perm_middle
  have e : ∀ k, k ≠ m → fup T.sg m (T.sg m ++ [s]) k = T.sg k := fun k hk => fup_ne _ _ hk
  rcases (by omega : m = 0 ∨ m = 1 ∨ m = 2 ∨ m = 3) with rfl | rfl | rfl | rfl
  · rw [fup_self, e 1 (by decide), e 2 (by decide), e 3 (by decide)]
    exact h1 _ _
  · rw [fup_self, e 0 (by decide), e 2 (by decide), e 3 (by decide)]
    exact ((h1 _ _).append_left _).trans List.perm_middle
  · rw [fup_self, e 0 (by decide), e 1 (by decide), e 3 (by decide)]
    exact ((((h1 _ _).append_left _).trans List.perm_middle).append_left _).trans List.perm_middle
  · rw [fup_self, e 0 (by decide), e 1 (by decide), e 2 (by decide)]
    exact ((((((h1 _ _).append_left _).trans List.perm_middle).append_left _).trans List.perm_middle).append_left _).trans List.perm_middle
section
variable {x : Nat} {w w' : World} {ρ ρ' : Rl} {L : GL} {T T' : BL} {G : GS} {B B' : BS}
/-- A new segment is linked. -/
theorem GetP.link {m s : Nat} {ρ1 : Rl} {w1 w2 : World} (h0 : BM w ρ L T G B) (hm : m < 4) (hn : (B.logs m).length % 16 = 0) (h : GetP w ρ L T G B s ρ1 w1) (hf : Fr (fun c => c == 12 || c == 14) ρ1 w1 ρ1 w2)
    (hbb : Blk w2 T.bB 137 (fnC 285 (bF L { T with fs := T.fs.tail, sg := fup T.sg m (T.sg m ++ [s]) } { B with made := if T.fs = [] then B.made + 1 else B.made })))
    (hsg : ∀ i t, (T.sg m)[i]? = some t → ∃ d, Blk w2 t 152 (fnC 34 (sgF d 16 (T.sg m ++ [s])[i + 1]?)) ∧ ∀ j p, j < 16 → (B.logs m)[16 * i + j]? = some p → d (2 * j) = p.1 ∧ d (2 * j + 1) = p.2)
    (hsb : w2.heap[s]? = w1.heap[s]?) (hk : ∀ t ∈ allS { T with fs := T.fs.tail }, t ∉ T.sg m → w2.heap[t]? = w1.heap[t]?) : ∃ c, AdM w ρ L T G B m s 0 c (T.sg m) ρ1 { T with fs := T.fs.tail, sg := fup T.sg m (T.sg m ++ [s]) } w2 := by
  obtain ⟨c, hb⟩ := h.sb
  have hfull := (h0.sg m hm (by omega)).full hn
  have hneed := h0.need
  have hbm := h.bm m hm
  have e : (addB B m (0, 0)).made = if T.fs = [] then B.made + 1 else B.made := by
    unfold addB
    dsimp only
    by_cases hfs : T.fs = []
    · rw [if_pos hfs, if_pos ⟨hn, by rw [hneed, hfs]; simp⟩]
    · have : T.fs.length ≠ 0 := fun e => hfs (List.eq_nil_of_length_eq_zero e)
      rw [if_neg hfs, if_neg (by omega)]
  have hp := allS_perm (T := { T with fs := T.fs.tail }) hm s
  have hnd : (allS { T with fs := T.fs.tail, sg := fup T.sg m (T.sg m ++ [s]) }).Nodup := hp.nodup_iff.2 (List.nodup_cons.2 ⟨h.ni, hbm.nd⟩)
  have hmem : ∀ t, t ∈ allS { T with fs := T.fs.tail, sg := fup T.sg m (T.sg m ++ [s]) } → t = s ∨ t ∈ allS { T with fs := T.fs.tail } := fun t ht => by
    have := hp.mem_iff.1 ht
    simpa using this
  have hnot : ∀ m' t, m' < 4 → m' ≠ m → t ∈ T.sg m' → t ∉ T.sg m := fun m' t hm' hne ht ht2 => by
    have hnd0 := h0.nd
    unfold allS at hnd0
    simp only [List.nodup_append, List.mem_append] at hnd0
    rcases (by omega : m = 0 ∨ m = 1 ∨ m = 2 ∨ m = 3) with rfl | rfl | rfl | rfl <;> rcases (by omega : m' = 0 ∨ m' = 1 ∨ m' = 2 ∨ m' = 3) with rfl | rfl | rfl | rfl <;> first | exact absurd rfl hne | skip
    · exact hnd0.2.2 t ht2 t (.inl ht) rfl
    · exact hnd0.2.2 t ht2 t (.inr (.inl ht)) rfl
    · exact hnd0.2.2 t ht2 t (.inr (.inr (.inl ht))) rfl
    · exact hnd0.2.2 t ht t (.inl ht2) rfl
    · exact hnd0.2.1.2.2 t ht2 t (.inl ht) rfl
    · exact hnd0.2.1.2.2 t ht2 t (.inr (.inl ht)) rfl
    · exact hnd0.2.2 t ht t (.inr (.inl ht2)) rfl
    · exact hnd0.2.1.2.2 t ht t (.inl ht2) rfl
    · exact hnd0.2.1.2.1.2.2 t ht2 t (.inl ht) rfl
    · exact hnd0.2.2 t ht t (.inr (.inr (.inl ht2))) rfl
    · exact hnd0.2.1.2.2 t ht t (.inr (.inl ht2)) rfl
    · exact hnd0.2.1.2.1.2.2 t ht t (.inl ht2) rfl
  have hnotf : ∀ t, t ∈ T.fs.tail → t ∉ T.sg m := fun t ht ht2 => by
    have hnd0 := hbm.nd
    unfold allS at hnd0
    simp only [List.nodup_append, List.mem_append] at hnd0
    rcases (by omega : m = 0 ∨ m = 1 ∨ m = 2 ∨ m = 3) with rfl | rfl | rfl | rfl
    · exact hnd0.2.2 t ht2 t (.inr (.inr (.inr ht))) rfl
    · exact hnd0.2.1.2.2 t ht2 t (.inr (.inr ht)) rfl
    · exact hnd0.2.1.2.1.2.2 t ht2 t (.inr ht) rfl
    · exact hnd0.2.1.2.1.2.1.2.2 t ht2 t ht rfl
  have hlen : (allS { T with fs := T.fs.tail, sg := fup T.sg m (T.sg m ++ [s]) }).length = if T.fs = [] then B.made + 1 else B.made := by
    rw [hp.length_eq]
    have h1 := h0.md (by decide)
    rw [allS_len] at h1
    rw [List.length_cons, allS_len]
    dsimp only
    by_cases hfs : T.fs = []
    · rw [if_pos hfs]; rw [hfs] at h1 ⊢; simp at h1 ⊢; omega
    · have : T.fs.length ≠ 0 := fun e => hfs (List.eq_nil_of_length_eq_zero e)
      rw [if_neg hfs, List.length_tail]
      omega
  have hfin := hbm.segs (y := m) (T' := { T with fs := T.fs.tail, sg := fup T.sg m (T.sg m ++ [s]) }) (B' := { B with made := if T.fs = [] then B.made + 1 else B.made }) hf hbb ⟨rfl, rfl, rfl, rfl⟩ ⟨rfl, rfl, rfl⟩ (fun m' hm' hne => ?_) (hbm.fs.fr (fun t ht => hk t (allS_f (T := { T with fs := T.fs.tail }) ht) (hnotf t ht))) hnd (fun t ht => ?_) (fun e => by omega) (by omega)
  · refine ⟨c, by rw [e]; exact hfin.1, ⟨?_, ?_, by decide, fun i t ht => ?_, hb.of hsb, fun j p hj => by omega⟩, rfl, by rw [e, hlen], h.fr.trans hfin.2⟩
    · show fup T.sg m (T.sg m ++ [s]) m = _
      exact fup_self _ _ _
    · rw [hfull.1]; rfl
    · show ∃ d, Blk w2 t _ (fnC 34 (sgF d 16 (fup T.sg m (T.sg m ++ [s]) m)[i + 1]?)) ∧ _
      rw [fup_self]
      exact hsg i t ht
  · show Chn w2 (fup T.sg m (T.sg m ++ [s]) m') (B.logs m')
    rw [fup_ne _ _ hne]
    exact (hbm.sg m' hm' hne).fr (fun t ht => hk t (allS_m (T := { T with fs := T.fs.tail }) hm' ht) (hnot m' t hm' hne ht))
  · rcases hmem t ht with rfl | h1
    · exact h.ro
    · exact hbm.rs t h1
theorem BMx.lcells (h : BMx x w ρ L T G B) {m : Nat} (hm : m < 4) : w.cell? ⟨T.bB, 3 + m * 69, none⟩ = some (ptrO (T.sg m).head?) ∧ w.cell? ⟨T.bB, 3 + m * 69 + 1, none⟩ = some (ptrO (T.sg m).getLast?) ∧ w.cell? ⟨T.bB, 3 + m * 69 + 2, none⟩ = some (.int .i64 ((B.logs m).length : Int)) := by
  refine ⟨?_, ?_, ?_⟩
  · exact h.mcell (j := 0) hm (by decide)
  · rw [h.mcell hm (by decide)]; rfl
  · rw [h.mcell hm (by decide)]; rfl
def AddP (w : World) (ρ : Rl) (L : GL) (T : BL) (G : GS) (B' : BS) (w' : World) : Prop := ∃ T' ρ', T'.bB = T.bB ∧ BM w' ρ' L T' G B' ∧ Fr bX ρ w ρ' w'
set_option maxRecDepth 1000000 in
set_option maxHeartbeats 8000000 in
theorem add_walk (h : BM w ρ L T G B) {m : Nat} (hm : m < 4) (f o : Nat) (hmd : B.made ≤ 1000000000) (hlg : (B.logs m).length ≤ 1000000000) : Calls Try.prog 88 #[.pointer (some ⟨T.bB, 3 + m * 69, none⟩), .pointer (some ⟨T.bB, 279, none⟩), .agg #[.int .u64 (f : Int), .int .u64 (o : Int)]] w fun e w' => e = .returned (.tuple #[]) ∧ AddP w ρ L T G (addB B m (f, o)) w' := by
  have HH := hid h
  have Hm := hid hm
  have Hb := hid (And.intro hmd hlg)
  obtain ⟨q, hq⟩ : ∃ q, 3 + m * 69 = q := ⟨_, rfl⟩
  have Hq := hid hq
  obtain ⟨g, hg⟩ : ∃ g, w.heap.size = g := ⟨_, rfl⟩
  have Hg := hid hg
  rw [hq]
  obtain ⟨n, hn⟩ : ∃ n, (B.logs m).length = n := ⟨_, rfl⟩
  have Hn := hid hn
  clear h hm hmd hlg hq hn
  go_enter Try.func88, Try.ntmps88
  go_upto_region 1 with fail
  obtain ⟨wa, hwa⟩ : ∃ wa, w.alloc (.cells #[.int .u64 (f : Int), .int .u64 (o : Int)] 59) = wa := ⟨_, rfl⟩
  have HBa : Hid (Below w.heap.size w wa) := hid (by rw [← hwa]; exact nbel w _)
  have HNa : Hid (Blk wa g 59 [.int .u64 (f : Int), .int .u64 (o : Int)]) := hid (by rw [← hwa, ← hg]; exact Blk.new w [.int .u64 (f : Int), .int .u64 (o : Int)] _)
  (try simp only [hwa])
  clear hwa hg
  have HMa := hid (HH.out.below HBa.out)
  have Hg0 : Hid (ρ g = 0) := hid (by
    by_cases e : ρ g = 0
    · exact e
    · have := HH.out.gm.dom g e
      rw [Hg.out] at this
      omega)
  have cl := (HMa.out.lcells Hm.out).2.1
  rw [Hq.out] at cl
  -- WAYS
  by_cases hmod : n % 16 = 0
  · have HGt := hid (get_walk HMa.out Hb.out.1)
    by_cases h0 : n = 0
    · have hsg : T.sg m = [] := by
        have := (HMa.out.sg m Hm.out (by have := Hm.out; omega)).len
        rw [Hn.out, h0] at this
        exact List.eq_nil_of_length_eq_zero (by simpa using this)
      rw [hsg] at cl
      have cl' : wa.cell? ⟨T.bB, q + 1, none⟩ = some (.pointer none) := cl
      clear cl h0
      as_aux_lemma =>
      go_wp2_with fail
      refine HGt.out.mono ?_
      rintro e1 w1 ⟨s, ρ1, rfl, hgp⟩
      have HGP := hid hgp
      have HG1 := hid (hgp.fr.keep HNa.out Hg0.out rfl)
      have hbm := hgp.bm m Hm.out
      have c1 := (hbm.lcells Hm.out).2.1
      have c2 := (hbm.lcells Hm.out).1
      rw [Hq.out] at c1 c2
      have c1' : w1.cell? ⟨T.bB, q + 1, none⟩ = some (.pointer none) := by rw [c1]; show some (ptrO (T.sg m).getLast?) = _; rw [hsg]; rfl
      have c2' : w1.cell? ⟨T.bB, q, none⟩ = some (.pointer none) := by rw [c2]; show some (ptrO (T.sg m).head?) = _; rw [hsg]; rfl
      have f1 : w1.frozen? ⟨T.bB, q + 1, none⟩ = false := hbm.bb.frozen _
      have f2 : w1.frozen? ⟨T.bB, q, none⟩ = false := hbm.bb.frozen _
      clear c1 c2 HGt hgp hbm cl'
      go_upto_region 7 with fail
      obtain ⟨wc, hwc⟩ : ∃ wc, (w1.setCell ⟨T.bB, q, none⟩ (.pointer (some ⟨s, 0, none⟩))).setCell ⟨T.bB, q + 1, none⟩ (.pointer (some ⟨s, 0, none⟩)) = wc := ⟨_, rfl⟩
      have hne : T.bB ≠ s := fun e => by
        have h1 := (HGP.out.bm m Hm.out).rb
        have h2 := HGP.out.ro
        rw [show T.bB = s from e, h2] at h1
        cases h1
      have HA' : Hid (∃ c, AdM wa ρ L T G B m s 0 c (T.sg m) ρ1 { T with fs := T.fs.tail, sg := fup T.sg m (T.sg m ++ [s]) } wc) := hid (by
        have hbm := HGP.out.bm m Hm.out
        have hU : Upd T.bB w1 wc := by rw [← hwc]; exact upd2 _ _ _ _ _ _
        refine HGP.out.link HMa.out Hm.out (by rw [Hn.out]; exact hmod) (Fr.upd hU (by show (ρ1 T.bB == 12 || ρ1 T.bB == 14) = true; rw [hbm.rb]; rfl)) ?_ (fun i t ht => by rw [hsg] at ht; simp at ht) (hU.block s (by obtain ⟨c, hb⟩ := HGP.out.sb; exact hb.lt) (fun e => hne e.symm)) (fun t ht _ => hU.block t (hbm.lts ht) (fun e => hbm.ne_s (hbm.rs t ht) e.symm))
        have h1 := (hbm.bb.set (3 + m * 69) (ptrO ([s] : List Nat).head?)).set (3 + m * 69 + 1) (ptrO ([s] : List Nat).getLast?)
        rw [bF_sg L _ _ Hm.out [s], Hq.out] at h1
        rw [← hwc, hsg]
        exact h1)
      have HG : Hid (Blk wc g 59 [.int .u64 (f : Int), .int .u64 (o : Int)]) := hid (by
        rw [← hwc]
        have hgb : T.bB ≠ g := fun e => by
          have h1 := HMa.out.rb
          rw [show T.bB = g from e, Hg0.out] at h1
          cases h1
        exact (HG1.out.setOther (p := ⟨T.bB, q, none⟩) hgb _).setOther (p := ⟨T.bB, q + 1, none⟩) hgb _)
      (try simp only [hwc])
      clear hwc c1' c2' f1 f2 hne HGP HG1
      obtain ⟨c, hA⟩ := HA'.out
      have HA := hid hA
      clear HA' hA
      obtain ⟨T1, hT1⟩ : ∃ T1, ({ T with fs := T.fs.tail, sg := fup T.sg m (T.sg m ++ [s]) } : BL) = T1 := ⟨_, rfl⟩
      rw [hT1] at HA
      clear hT1
      obtain ⟨pre, hpre⟩ : ∃ pre, T.sg m = pre := ⟨_, rfl⟩
      rw [hpre] at HA
      clear hpre hsg
      obtain ⟨u, hu⟩ : ∃ u, 0 = u := ⟨_, rfl⟩
      rw [hu] at HA
      clear hu
      go_upto_region 7 with fail
      obtain ⟨X, W, HTT, H0, hne0, HC⟩ := class_below wc
      have HAy : Hid (∀ y, AdM wa ρ L T G B m s u c pre ρ1 T1 (W y)) := hid (fun y => HA.out.below Hm.out (HTT.out y))
      have e1 : ∀ y, (W y).cell? ⟨T.bB, q + 1, none⟩ = some (.pointer (some ⟨s, 0, none⟩)) := fun y => by
        have := ((HAy.out y).bm.lcells Hm.out).2.1
        rw [Hq.out, (HAy.out y).tb, (HAy.out y).op.eq] at this
        rw [this]
        simp [ptrO]
      have e2 : ∀ y, (W y).cell? ⟨s, 32, none⟩ = some (.int .i64 (u : Int)) := fun y => sg_used (HAy.out y).op.bl
      have e3 : ∀ y, (W y).cell? ⟨g, 0, none⟩ = some (.int .u64 (f : Int)) := fun y => (HG.out.below (HTT.out y)).cell 0
      have e4 : ∀ y, (W y).cell? ⟨g, 1, none⟩ = some (.int .u64 (o : Int)) := fun y => (HG.out.below (HTT.out y)).cell 1
      have iu : (u : Int) < 16 := by have := HA.out.op.lt; omega
      refine wp_region_class_lastT W rfl (by kernel_rfl) (by kernel_rfl) (by kernel_rfl) H0.out ?_
      dsimp only [List.dropLast]
      repeat (go_big_quiet_step (fail))
      refine wpQuiet_nil ?_
      intro z
      have HAz := hid (HAy.out z)
      generalize W z = wz at HAz ⊢
      clear e1 e2 e3 e4 H0 HTT HC hne0 HAy HA HG
      have hlt : u < 16 := HAz.out.op.lt
      have g1 := sg_ent HAz.out.op.bl (k := u * 2) (by omega)
      have g2 := sg_ent HAz.out.op.bl (k := u * 2 + 1) (by omega)
      have g3 := HAz.out.op.bl.frozen (u * 2)
      have g4 := HAz.out.op.bl.frozen (u * 2 + 1)
      have hne : T.bB ≠ s := by
        rw [← HAz.out.tb]
        exact HAz.out.bm.ne_s (HAz.out.bm.rs s (allS_m Hm.out (by rw [HAz.out.op.eq]; simp)))
      have Hne := hid hne
      clear hne
      go_upto_region 8 with fail
      obtain ⟨w7, hw7⟩ : ∃ w7, (wz.setCell ⟨s, u * 2, none⟩ (.int .u64 (f : Int))).setCell ⟨s, u * 2 + 1, none⟩ (.int .u64 (o : Int)) = w7 := ⟨_, rfl⟩
      have hU7 : Upd s wz w7 := by rw [← hw7]; exact upd2 _ _ _ _ _ _
      have HB7 : Hid (Blk w7 s 152 (fnC 34 (sgF (fup (fup c (u * 2) f) (u * 2 + 1) o) u none))) := hid (by
        rw [← hw7]
        have := (HAz.out.op.bl.set (u * 2) (.int .u64 (f : Int))).set (u * 2 + 1) (.int .u64 (o : Int))
        rw [sgF_ent _ _ _ (by omega), sgF_ent _ _ _ (by omega)] at this
        exact this)
      have hbb7 := HAz.out.bm.bb.upd hU7 (by rw [HAz.out.tb]; exact Hne.out)
      rw [HAz.out.tb] at hbb7
      have HBB7 := hid hbb7
      have k1 : w7.cell? ⟨T.bB, q + 1, none⟩ = some (.pointer (some ⟨s, 0, none⟩)) := by
        have := (HAz.out.bm.lcells Hm.out).2.1
        rw [Hq.out, HAz.out.tb, HAz.out.op.eq] at this
        rw [World.cell?_of_block (hU7.block _ (by have := HAz.out.bm.bb.lt; rw [HAz.out.tb] at this; exact this) Hne.out), this]
        simp [ptrO]
      have k2 := sg_used HB7.out
      have k3 := HB7.out.frozen 32
      have HW7 := hid hw7
      (try simp only [hw7])
      clear hw7 g1 g2 g3 g4 hU7 hbb7
      go_upto_region 9 with fail
      obtain ⟨w8, hw8⟩ : ∃ w8, w7.setCell ⟨s, 32, none⟩ (.int .i64 ((u : Int) + 1)) = w8 := ⟨_, rfl⟩
      have hbb8 : Blk w8 T.bB 137 (fnC 285 (bF L T1 { B with made := (addB B m (0, 0)).made })) := by rw [← hw8]; exact HBB7.out.setOther (p := ⟨s, 32, none⟩) (fun e => Hne.out e.symm) _
      have k4 : w8.cell? ⟨T.bB, q + 2, none⟩ = some (.int .i64 (n : Int)) := by
        rw [hbb8.cell, ← Hq.out, fnC_get _ (by have := Hm.out; omega), bF_m L T1 _ Hm.out (by decide)]
        show some (Value.int .i64 ((B.logs m).length : Int)) = _
        rw [Hn.out]
      have k5 := hbb8.frozen (q + 2)
      have HW8 := hid hw8
      (try simp only [hw8])
      have in1 : (n : Int) ≤ 1000000000 := by have := Hb.out.2; rw [Hn.out] at this; omega
      clear hw8 k1 k2 k3 HBB7 hbb8
      have HR : Hid (AddP w ρ L T G (addB B m (f, o)) (w8.setCell ⟨T.bB, q + 2, none⟩ (.int .i64 ((n : Int) + 1)))) := hid (by
        have := HAz.out.fin Hm.out f o
        rw [HW7.out, show (((u + 1 : Nat) : Int)) = (u : Int) + 1 by omega, HW8.out, show 3 + m * 69 + 2 = q + 2 by rw [Hq.out], show ((((B.logs m).length + 1 : Nat)) : Int) = (n : Int) + 1 by rw [Hn.out]; omega] at this
        exact ⟨T1, ρ1, HAz.out.tb, this.1, (Fr.below HBa.out).trans this.2⟩)
      clear HAz HW7 HW8 HB7
      go_wp2
      exact bodyPost_end (v := .tuple #[]) (by simp [results, Try.results88, go_sem]) rfl ⟨rfl, HR.out⟩
    · have hlen := (HMa.out.sg m Hm.out (by have := Hm.out; omega)).len
      have hfull := (HMa.out.sg m Hm.out (by have := Hm.out; omega)).full (by rw [Hn.out]; exact hmod)
      have hsne : T.sg m ≠ [] := fun e => by rw [e, Hn.out] at hlen; simp at hlen; omega
      obtain ⟨pr, ℓ, hpl⟩ : ∃ pr ℓ, T.sg m = pr ++ [ℓ] := ⟨_, _, (List.dropLast_concat_getLast hsne).symm⟩
      obtain ⟨d, hd1, hd2⟩ := hfull.2 pr.length ℓ (by rw [hpl]; simp)
      have hdn : (T.sg m)[pr.length + 1]? = none := List.getElem?_eq_none (by rw [hpl]; simp)
      rw [hdn] at hd1
      have hℓm : ℓ ∈ T.sg m := by rw [hpl]; simp
      have hℓ14 := HMa.out.rs ℓ (allS_m Hm.out hℓm)
      rw [hpl] at cl
      have cl' : wa.cell? ⟨T.bB, q + 1, none⟩ = some (.pointer (some ⟨ℓ, 0, none⟩)) := by rw [cl]; simp [ptrO]
      have cu : wa.cell? ⟨ℓ, 32, none⟩ = some (.int .i64 16) := sg_used hd1
      have HD := hid (And.intro hd2 hfull)
      have HP := hid hpl
      have HL := hid (And.intro hℓm hℓ14)
      clear cl hlen hfull hsne hd1 hd2 hdn hpl hℓm hℓ14
      as_aux_lemma =>
      go_wp2_with fail
      refine HGt.out.mono ?_
      rintro e1 w1 ⟨s, ρ1, rfl, hgp⟩
      have HGP := hid hgp
      have HG1 := hid (hgp.fr.keep HNa.out Hg0.out rfl)
      have hbm := hgp.bm m Hm.out
      have c1 := (hbm.lcells Hm.out).2.1
      rw [Hq.out] at c1
      have c1' : w1.cell? ⟨T.bB, q + 1, none⟩ = some (.pointer (some ⟨ℓ, 0, none⟩)) := by rw [c1]; show some (ptrO (T.sg m).getLast?) = _; rw [HP.out]; simp [ptrO]
      have hkℓ : ∀ t, t ∈ T.sg m → t ∈ allS { T with fs := T.fs.tail } := fun t ht => allS_m (T := { T with fs := T.fs.tail }) Hm.out ht
      have HKL := hid hkℓ
      have hgpk : ∀ t, t ∈ T.sg m → w1.heap[t]? = wa.heap[t]? := fun t ht => hgp.kp t (hkℓ t ht)
      have HS1 : Hid (∀ i t, (T.sg m)[i]? = some t → ∃ d, Blk w1 t 152 (fnC 34 (sgF d 16 (T.sg m)[i + 1]?)) ∧ ∀ j p, j < 16 → (B.logs m)[16 * i + j]? = some p → d (2 * j) = p.1 ∧ d (2 * j + 1) = p.2) := hid (fun i t ht => by
        obtain ⟨d2, h2, h3⟩ := (HMa.out.sg m Hm.out (by have := Hm.out; omega)).full (by rw [Hn.out]; exact hmod) |>.2 i t ht
        have htm := List.mem_of_getElem? ht
        exact ⟨d2, h2.of (hgpk t htm), h3⟩)
      obtain ⟨d1, hd1, hd2⟩ := HS1.out pr.length ℓ (by rw [HP.out]; simp)
      have hdn : (T.sg m)[pr.length + 1]? = none := List.getElem?_eq_none (by rw [HP.out]; simp)
      rw [hdn] at hd1
      have c3 : w1.cell? ⟨ℓ, 33, none⟩ = some (.pointer none) := sg_next hd1
      have f3 := hd1.frozen 33
      have f1 : w1.frozen? ⟨T.bB, q + 1, none⟩ = false := hbm.bb.frozen _
      have hneℓ : T.bB ≠ ℓ := HMa.out.ne_s HL.out.2
      have hne1 : (T.bB == ℓ) = false := by simp; exact hneℓ
      have hne2 : (ℓ == T.bB) = false := by simp; exact fun e => hneℓ e.symm
      have c4 : (w1.setCell ⟨ℓ, 33, none⟩ (.pointer (some ⟨s, 0, none⟩))).cell? ⟨T.bB, q + 1, none⟩ = some (.pointer (some ⟨ℓ, 0, none⟩)) := by rw [World.cell?_of_block (Below.heap_setCell _ _ _ _ (fun e => hneℓ e))]; exact c1'
      have f4 : (w1.setCell ⟨ℓ, 33, none⟩ (.pointer (some ⟨s, 0, none⟩))).frozen? ⟨T.bB, q + 1, none⟩ = false := by rw [World.frozen?_of_block (Below.heap_setCell _ _ _ _ (fun e => hneℓ e))]; exact f1
      have HD1 := hid hd1
      clear c1 HGt hgp hbm cl' cu hd1 hd2 hdn hkℓ
      go_upto_region 6 with fail
      obtain ⟨wb, hwb⟩ : ∃ wb, w1.setCell ⟨ℓ, 33, none⟩ (.pointer (some ⟨s, 0, none⟩)) = wb := ⟨_, rfl⟩
      rw [hwb] at c4 f4
      (try simp only [hwb])
      go_upto_region 7 with fail
      obtain ⟨wc, hwc⟩ : ∃ wc, wb.setCell ⟨T.bB, q + 1, none⟩ (.pointer (some ⟨s, 0, none⟩)) = wc := ⟨_, rfl⟩
      have hne : T.bB ≠ s := fun e => by
        have h1 := (HGP.out.bm m Hm.out).rb
        have h2 := HGP.out.ro
        rw [show T.bB = s from e, h2] at h1
        cases h1
      have hsℓ : s ≠ ℓ := fun e => HGP.out.ni (by rw [e]; exact HKL.out ℓ HL.out.1)
      have HA' : Hid (∃ c, AdM wa ρ L T G B m s 0 c (T.sg m) ρ1 { T with fs := T.fs.tail, sg := fup T.sg m (T.sg m ++ [s]) } wc) := hid (by
        have hbm := HGP.out.bm m Hm.out
        have hUb : Upd ℓ w1 wb := by rw [← hwb]; exact upd1 _ _ _ _
        have hUc : Upd T.bB wb wc := by rw [← hwc]; exact upd1 _ _ _ _
        have hℓ1 : ρ1 ℓ = 14 := hbm.rs ℓ (HKL.out ℓ HL.out.1)
        have hf : Fr (fun c => c == 12 || c == 14) ρ1 w1 ρ1 wc := (Fr.upd hUb (by show (ρ1 ℓ == 12 || ρ1 ℓ == 14) = true; rw [hℓ1]; rfl)).trans (Fr.upd hUc (by show (ρ1 T.bB == 12 || ρ1 T.bB == 14) = true; rw [hbm.rb]; rfl))
        have hkk : ∀ t, t < w1.heap.size → t ≠ ℓ → t ≠ T.bB → wc.heap[t]? = w1.heap[t]? := fun t h1 h2 h3 => (hUc.block t (by have := hUb.size; omega) h3).trans (hUb.block t h1 h2)
        refine HGP.out.link HMa.out Hm.out (by rw [Hn.out]; exact hmod) hf ?_ (fun i t ht => ?_) (hkk s (by obtain ⟨c, hb⟩ := HGP.out.sb; exact hb.lt) hsℓ (fun e => hne e.symm)) (fun t ht hti => hkk t (hbm.lts ht) (fun e => hti (by rw [e]; exact HL.out.1)) (fun e => hbm.ne_s (hbm.rs t ht) e.symm))
        · have h1 := ((hbm.bb.upd hUb hneℓ)).set (3 + m * 69 + 1) (ptrO (T.sg m ++ [s]).getLast?)
          rw [bF_sg1 L _ _ Hm.out (T.sg m ++ [s]) (by show (T.sg m ++ [s]).head? = (T.sg m).head?; rw [HP.out]; cases pr <;> simp), Hq.out] at h1
          rw [← hwc, show (Value.pointer (some ⟨s, 0, none⟩)) = ptrO (T.sg m ++ [s]).getLast? by simp [ptrO]]
          exact h1
        · have hti := (List.getElem?_eq_some_iff.1 ht).1
          by_cases e : i = pr.length
          · subst e
            obtain ⟨d2, h2, h3⟩ := HS1.out pr.length t ht
            have htl : t = ℓ := by rw [HP.out] at ht; simp at ht; exact ht.symm
            subst htl
            rw [show (T.sg m)[pr.length + 1]? = none from List.getElem?_eq_none (by rw [HP.out]; simp)] at h2
            refine ⟨d2, ?_, h3⟩
            have h4 := h2.set 33 (ptrO (some s))
            rw [sgF_next] at h4
            rw [show (T.sg m ++ [s])[pr.length + 1]? = some s by rw [HP.out]; simp, ← hwc]
            refine Blk.setOther (p := ⟨T.bB, q + 1, none⟩) ?_ hneℓ _
            rw [← hwb]
            exact h4
          · obtain ⟨d2, h2, h3⟩ := HS1.out i t ht
            refine ⟨d2, ?_, h3⟩
            have hil : i < pr.length := by rw [HP.out] at hti; simp at hti; omega
            rw [List.getElem?_append_left (show i + 1 < (T.sg m).length by rw [HP.out]; simp; omega)]
            refine h2.of (hkk t h2.lt (fun e2 => ?_) (fun e2 => ?_))
            · have hnd : (T.sg m).Nodup := by
                refine HMa.out.nd.sublist ?_
                unfold allS
                have := Hm.out
                rcases (by omega : m = 0 ∨ m = 1 ∨ m = 2 ∨ m = 3) with rfl | rfl | rfl | rfl
                · exact List.sublist_append_left _ _
                · exact (List.sublist_append_left _ _).trans (List.sublist_append_right _ _)
                · exact ((List.sublist_append_left _ _).trans (List.sublist_append_right _ _)).trans (List.sublist_append_right _ _)
                · exact (((List.sublist_append_left _ _).trans (List.sublist_append_right _ _)).trans (List.sublist_append_right _ _)).trans (List.sublist_append_right _ _)
              rw [HP.out, List.nodup_append] at hnd
              have htp : t ∈ pr := by
                rw [HP.out, List.getElem?_append_left hil] at ht
                exact List.mem_of_getElem? ht
              exact hnd.2.2 t htp t (by rw [e2]; simp) rfl
            · exact hbm.ne_s (hbm.rs t (HKL.out t (List.mem_of_getElem? ht))) e2.symm)
      have HG : Hid (Blk wc g 59 [.int .u64 (f : Int), .int .u64 (o : Int)]) := hid (by
        rw [← hwc, ← hwb]
        have hgb : T.bB ≠ g := fun e => by
          have h1 := HMa.out.rb
          rw [show T.bB = g from e, Hg0.out] at h1
          cases h1
        have hgl : ℓ ≠ g := fun e => by
          have h1 := HL.out.2
          rw [show ℓ = g from e, Hg0.out] at h1
          cases h1
        exact (HG1.out.setOther (p := ⟨ℓ, 33, none⟩) hgl _).setOther (p := ⟨T.bB, q + 1, none⟩) hgb _)
      (try simp only [hwc])
      clear hwc hwb c1' c3 c4 f1 f3 f4 hne hsℓ HGP HG1 hneℓ hne1 hne2 HS1 HD1 HD
      obtain ⟨c, hA⟩ := HA'.out
      have HA := hid hA
      clear HA' hA
      obtain ⟨T1, hT1⟩ : ∃ T1, ({ T with fs := T.fs.tail, sg := fup T.sg m (T.sg m ++ [s]) } : BL) = T1 := ⟨_, rfl⟩
      rw [hT1] at HA
      clear hT1
      obtain ⟨pre, hpre⟩ : ∃ pre, T.sg m = pre := ⟨_, rfl⟩
      rw [hpre] at HA
      clear hpre HP HL HKL
      obtain ⟨u, hu⟩ : ∃ u, 0 = u := ⟨_, rfl⟩
      rw [hu] at HA
      clear hu
      go_upto_region 7 with fail
      obtain ⟨X, W, HTT, H0, hne0, HC⟩ := class_below wc
      have HAy : Hid (∀ y, AdM wa ρ L T G B m s u c pre ρ1 T1 (W y)) := hid (fun y => HA.out.below Hm.out (HTT.out y))
      have e1 : ∀ y, (W y).cell? ⟨T.bB, q + 1, none⟩ = some (.pointer (some ⟨s, 0, none⟩)) := fun y => by
        have := ((HAy.out y).bm.lcells Hm.out).2.1
        rw [Hq.out, (HAy.out y).tb, (HAy.out y).op.eq] at this
        rw [this]
        simp [ptrO]
      have e2 : ∀ y, (W y).cell? ⟨s, 32, none⟩ = some (.int .i64 (u : Int)) := fun y => sg_used (HAy.out y).op.bl
      have e3 : ∀ y, (W y).cell? ⟨g, 0, none⟩ = some (.int .u64 (f : Int)) := fun y => (HG.out.below (HTT.out y)).cell 0
      have e4 : ∀ y, (W y).cell? ⟨g, 1, none⟩ = some (.int .u64 (o : Int)) := fun y => (HG.out.below (HTT.out y)).cell 1
      have iu : (u : Int) < 16 := by have := HA.out.op.lt; omega
      refine wp_region_class_lastT W rfl (by kernel_rfl) (by kernel_rfl) (by kernel_rfl) H0.out ?_
      dsimp only [List.dropLast]
      repeat (go_big_quiet_step (fail))
      refine wpQuiet_nil ?_
      intro z
      have HAz := hid (HAy.out z)
      generalize W z = wz at HAz ⊢
      clear e1 e2 e3 e4 H0 HTT HC hne0 HAy HA HG
      have hlt : u < 16 := HAz.out.op.lt
      have g1 := sg_ent HAz.out.op.bl (k := u * 2) (by omega)
      have g2 := sg_ent HAz.out.op.bl (k := u * 2 + 1) (by omega)
      have g3 := HAz.out.op.bl.frozen (u * 2)
      have g4 := HAz.out.op.bl.frozen (u * 2 + 1)
      have hne : T.bB ≠ s := by
        rw [← HAz.out.tb]
        exact HAz.out.bm.ne_s (HAz.out.bm.rs s (allS_m Hm.out (by rw [HAz.out.op.eq]; simp)))
      have Hne := hid hne
      clear hne
      go_upto_region 8 with fail
      obtain ⟨w7, hw7⟩ : ∃ w7, (wz.setCell ⟨s, u * 2, none⟩ (.int .u64 (f : Int))).setCell ⟨s, u * 2 + 1, none⟩ (.int .u64 (o : Int)) = w7 := ⟨_, rfl⟩
      have hU7 : Upd s wz w7 := by rw [← hw7]; exact upd2 _ _ _ _ _ _
      have HB7 : Hid (Blk w7 s 152 (fnC 34 (sgF (fup (fup c (u * 2) f) (u * 2 + 1) o) u none))) := hid (by
        rw [← hw7]
        have := (HAz.out.op.bl.set (u * 2) (.int .u64 (f : Int))).set (u * 2 + 1) (.int .u64 (o : Int))
        rw [sgF_ent _ _ _ (by omega), sgF_ent _ _ _ (by omega)] at this
        exact this)
      have hbb7 := HAz.out.bm.bb.upd hU7 (by rw [HAz.out.tb]; exact Hne.out)
      rw [HAz.out.tb] at hbb7
      have HBB7 := hid hbb7
      have k1 : w7.cell? ⟨T.bB, q + 1, none⟩ = some (.pointer (some ⟨s, 0, none⟩)) := by
        have := (HAz.out.bm.lcells Hm.out).2.1
        rw [Hq.out, HAz.out.tb, HAz.out.op.eq] at this
        rw [World.cell?_of_block (hU7.block _ (by have := HAz.out.bm.bb.lt; rw [HAz.out.tb] at this; exact this) Hne.out), this]
        simp [ptrO]
      have k2 := sg_used HB7.out
      have k3 := HB7.out.frozen 32
      have HW7 := hid hw7
      (try simp only [hw7])
      clear hw7 g1 g2 g3 g4 hU7 hbb7
      go_upto_region 9 with fail
      obtain ⟨w8, hw8⟩ : ∃ w8, w7.setCell ⟨s, 32, none⟩ (.int .i64 ((u : Int) + 1)) = w8 := ⟨_, rfl⟩
      have hbb8 : Blk w8 T.bB 137 (fnC 285 (bF L T1 { B with made := (addB B m (0, 0)).made })) := by rw [← hw8]; exact HBB7.out.setOther (p := ⟨s, 32, none⟩) (fun e => Hne.out e.symm) _
      have k4 : w8.cell? ⟨T.bB, q + 2, none⟩ = some (.int .i64 (n : Int)) := by
        rw [hbb8.cell, ← Hq.out, fnC_get _ (by have := Hm.out; omega), bF_m L T1 _ Hm.out (by decide)]
        show some (Value.int .i64 ((B.logs m).length : Int)) = _
        rw [Hn.out]
      have k5 := hbb8.frozen (q + 2)
      have HW8 := hid hw8
      (try simp only [hw8])
      have in1 : (n : Int) ≤ 1000000000 := by have := Hb.out.2; rw [Hn.out] at this; omega
      clear hw8 k1 k2 k3 HBB7 hbb8
      have HR : Hid (AddP w ρ L T G (addB B m (f, o)) (w8.setCell ⟨T.bB, q + 2, none⟩ (.int .i64 ((n : Int) + 1)))) := hid (by
        have := HAz.out.fin Hm.out f o
        rw [HW7.out, show (((u + 1 : Nat) : Int)) = (u : Int) + 1 by omega, HW8.out, show 3 + m * 69 + 2 = q + 2 by rw [Hq.out], show ((((B.logs m).length + 1 : Nat)) : Int) = (n : Int) + 1 by rw [Hn.out]; omega] at this
        exact ⟨T1, ρ1, HAz.out.tb, this.1, (Fr.below HBa.out).trans this.2⟩)
      clear HAz HW7 HW8 HB7
      go_wp2
      exact bodyPost_end (v := .tuple #[]) (by simp [results, Try.results88, go_sem]) rfl ⟨rfl, HR.out⟩
  · have HR0 := hid (HMa.out.room Hm.out (by rw [Hn.out]; exact hmod))
    obtain ⟨s, c, pre, had⟩ := HR0.out
    have HA := hid had
    rw [had.op.eq] at cl
    have cl' : wa.cell? ⟨T.bB, q + 1, none⟩ = some (.pointer (some ⟨s, 0, none⟩)) := by rw [cl]; simp [ptrO]
    have cu := sg_used had.op.bl
    rw [Hn.out] at cu
    obtain ⟨u, hu⟩ : ∃ u, n % 16 = u := ⟨_, rfl⟩
    rw [Hn.out, hu] at HA
    rw [hu] at cu
    have du : ((u : Int) == 16) = false := by simp; omega
    have HG := hid HNa.out
    clear HR0 had cl hu
    as_aux_lemma =>
    go_upto_region 7 with fail
    clear du cl' cu
    obtain ⟨X, W, HTT, H0, hne0, HC⟩ := class_below wa
    have HAy : Hid (∀ y, AdM wa ρ L T G B m s u c pre ρ T (W y)) := hid (fun y => HA.out.below Hm.out (HTT.out y))
    have e1 : ∀ y, (W y).cell? ⟨T.bB, q + 1, none⟩ = some (.pointer (some ⟨s, 0, none⟩)) := fun y => by
      have := ((HAy.out y).bm.lcells Hm.out).2.1
      rw [Hq.out, (HAy.out y).tb, (HAy.out y).op.eq] at this
      rw [this]
      simp [ptrO]
    have e2 : ∀ y, (W y).cell? ⟨s, 32, none⟩ = some (.int .i64 (u : Int)) := fun y => sg_used (HAy.out y).op.bl
    have e3 : ∀ y, (W y).cell? ⟨g, 0, none⟩ = some (.int .u64 (f : Int)) := fun y => (HG.out.below (HTT.out y)).cell 0
    have e4 : ∀ y, (W y).cell? ⟨g, 1, none⟩ = some (.int .u64 (o : Int)) := fun y => (HG.out.below (HTT.out y)).cell 1
    have iu : (u : Int) < 16 := by have := HA.out.op.lt; omega
    refine wp_region_class_lastT W rfl (by kernel_rfl) (by kernel_rfl) (by kernel_rfl) H0.out ?_
    dsimp only [List.dropLast]
    repeat (go_big_quiet_step (fail))
    refine wpQuiet_nil ?_
    intro z
    have HAz := hid (HAy.out z)
    generalize W z = wz at HAz ⊢
    clear e1 e2 e3 e4 H0 HTT HC hne0 HAy HA HG
    have hlt : u < 16 := HAz.out.op.lt
    have g1 := sg_ent HAz.out.op.bl (k := u * 2) (by omega)
    have g2 := sg_ent HAz.out.op.bl (k := u * 2 + 1) (by omega)
    have g3 := HAz.out.op.bl.frozen (u * 2)
    have g4 := HAz.out.op.bl.frozen (u * 2 + 1)
    have hne : T.bB ≠ s := by
      rw [← HAz.out.tb]
      exact HAz.out.bm.ne_s (HAz.out.bm.rs s (allS_m Hm.out (by rw [HAz.out.op.eq]; simp)))
    have Hne := hid hne
    clear hne
    go_upto_region 8 with fail
    obtain ⟨w7, hw7⟩ : ∃ w7, (wz.setCell ⟨s, u * 2, none⟩ (.int .u64 (f : Int))).setCell ⟨s, u * 2 + 1, none⟩ (.int .u64 (o : Int)) = w7 := ⟨_, rfl⟩
    have hU7 : Upd s wz w7 := by rw [← hw7]; exact upd2 _ _ _ _ _ _
    have HB7 : Hid (Blk w7 s 152 (fnC 34 (sgF (fup (fup c (u * 2) f) (u * 2 + 1) o) u none))) := hid (by
      rw [← hw7]
      have := (HAz.out.op.bl.set (u * 2) (.int .u64 (f : Int))).set (u * 2 + 1) (.int .u64 (o : Int))
      rw [sgF_ent _ _ _ (by omega), sgF_ent _ _ _ (by omega)] at this
      exact this)
    have hbb7 := HAz.out.bm.bb.upd hU7 (by rw [HAz.out.tb]; exact Hne.out)
    rw [HAz.out.tb] at hbb7
    have HBB7 := hid hbb7
    have k1 : w7.cell? ⟨T.bB, q + 1, none⟩ = some (.pointer (some ⟨s, 0, none⟩)) := by
      have := (HAz.out.bm.lcells Hm.out).2.1
      rw [Hq.out, HAz.out.tb, HAz.out.op.eq] at this
      rw [World.cell?_of_block (hU7.block _ (by have := HAz.out.bm.bb.lt; rw [HAz.out.tb] at this; exact this) Hne.out), this]
      simp [ptrO]
    have k2 := sg_used HB7.out
    have k3 := HB7.out.frozen 32
    have HW7 := hid hw7
    (try simp only [hw7])
    clear hw7 g1 g2 g3 g4 hU7 hbb7
    go_upto_region 9 with fail
    obtain ⟨w8, hw8⟩ : ∃ w8, w7.setCell ⟨s, 32, none⟩ (.int .i64 ((u : Int) + 1)) = w8 := ⟨_, rfl⟩
    have hbb8 : Blk w8 T.bB 137 (fnC 285 (bF L T { B with made := (addB B m (0, 0)).made })) := by rw [← hw8]; exact HBB7.out.setOther (p := ⟨s, 32, none⟩) (fun e => Hne.out e.symm) _
    have k4 : w8.cell? ⟨T.bB, q + 2, none⟩ = some (.int .i64 (n : Int)) := by
      rw [hbb8.cell, ← Hq.out, fnC_get _ (by have := Hm.out; omega), bF_m L T _ Hm.out (by decide)]
      show some (Value.int .i64 ((B.logs m).length : Int)) = _
      rw [Hn.out]
    have k5 := hbb8.frozen (q + 2)
    have HW8 := hid hw8
    (try simp only [hw8])
    have in1 : (n : Int) ≤ 1000000000 := by have := Hb.out.2; rw [Hn.out] at this; omega
    clear hw8 k1 k2 k3 HBB7 hbb8
    have HR : Hid (AddP w ρ L T G (addB B m (f, o)) (w8.setCell ⟨T.bB, q + 2, none⟩ (.int .i64 ((n : Int) + 1)))) := hid (by
      have := HAz.out.fin Hm.out f o
      rw [HW7.out, show (((u + 1 : Nat) : Int)) = (u : Int) + 1 by omega, HW8.out, show 3 + m * 69 + 2 = q + 2 by rw [Hq.out], show ((((B.logs m).length + 1 : Nat)) : Int) = (n : Int) + 1 by rw [Hn.out]; omega] at this
      exact ⟨T, ρ, HAz.out.tb, this.1, (Fr.below HBa.out).trans this.2⟩)
    clear HAz HW7 HW8 HB7
    go_wp2
    exact bodyPost_end (v := .tuple #[]) (by simp [results, Try.results88, go_sem]) rfl ⟨rfl, HR.out⟩
end
end Go.Proofs.Qxb6500888a
