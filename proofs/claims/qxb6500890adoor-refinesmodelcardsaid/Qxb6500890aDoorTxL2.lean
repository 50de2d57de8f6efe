/- RefinesModel: the law. -/
import Derived.Test.Qxb6500890aDoorTxL1
import Derived.Test.Qxb6500890aDoorTextAt
import Derived.Test.Qxb6500890aDoorTextSmall
namespace Go.Proofs.Qxb6500890aDoor
open Go.RowKit
set_option linter.unusedSimpArgs false
set_option linter.unusedVariables false

structure LT (w0 : World) (pB mB k : Nat) (ρ : Rl) (bB : Nat) (a : Option Addr) (q : Nat) (S Sm : TS) (wr : World) : Prop where
  pl : PlM wr ρ pB bB a q S
  mb : Blk wr mB 31 (stC Sm)
  rm : ρ mB = 0
  be : Below w0.heap.size w0 wr
  lo : ∀ g, g < w0.heap.size → ρ g = 0
  lm : w0.heap.size ≤ mB
  bs : S.bs.length ≤ 65536 * k
  lim : S.lim ≤ 9223372036854775807
section
variable {w0 wr w' : World} {pB mB bB k : Nat} {ρ : Rl} {a : Option Addr} {q : Nat} {S Sm S' : TS} {O : OutP} {e : Ending} {o : TOp}
theorem LT.below (h : LT w0 pB mB k ρ bB a q S Sm wr) (hb : Below wr.heap.size wr w') : LT w0 pB mB k ρ bB a q S Sm w' := ⟨h.pl.below hb, h.mb.below hb, h.rm, h.be.trans (hb.mono h.be.size), h.lo, h.lm, h.bs, h.lim⟩
theorem LT.real (h : LT w0 pB mB k ρ bB a q S S wr) (hB : Both S o O S') (hR : RsP wr ρ pB O S' e w') : ∃ lv rv ρ' bB' a' q', e = .returned (ouV O lv rv) ∧ OwR rtS wr.heap.size w' lv O.list ∧ OwR rtK wr.heap.size w' rv O.recs ∧ LT w0 pB mB (k + 1) ρ' bB' a' q' S' S w' ∧ Fr plX ρ wr ρ' w' := by
  obtain ⟨lv, rv, bB', a', q', ρ', h1, h2, h3, h4, h5⟩ := hR
  have h6 := hB.bs
  have h7 := h.bs
  exact ⟨lv, rv, ρ', bB', a', q', h1, h2, h3, ⟨h4, h5.keep h.mb h.rm rfl, by rw [h5.old _ h.mb.lt]; exact h.rm, h.be.trans (h5.toBelow h.be.size h.lo rfl), fun g hg => by rw [h5.old g (Nat.lt_of_lt_of_le hg h.be.size)]; exact h.lo g hg, h.lm, by omega, hB.lim⟩, h5⟩
theorem LT.model (h : LT w0 pB mB k ρ bB a q S' S wr) (hM : MsP wr mB O S' e w') : ∃ lv rv, e = .returned (ouV O lv rv) ∧ OwR rtS wr.heap.size w' lv O.list ∧ OwR rtK wr.heap.size w' rv O.recs ∧ LT w0 pB mB k ρ bB a q S' S' w' ∧ Upd mB wr w' := by
  obtain ⟨lv, rv, h1, h2, h3, h4, h5⟩ := hM
  have hf : Fr (fun c => c == 0) ρ wr ρ w' := Fr.upd h5 (by rw [h.rm]; rfl)
  exact ⟨lv, rv, h1, h2, h3, ⟨h.pl.fr hf rfl rfl rfl, h4, h.rm, h.be.trans (h5.below h.lm h.be.size), h.lo, h.lm, h.bs, h.lim⟩, h5⟩
theorem op_le {l : List TOp} {i : Nat} {o : TOp} (h : l[i]? = some o) : opW o ≤ opsW l := by
  have hm := List.mem_of_getElem? h
  unfold opsW
  clear h
  induction l with
  | nil => cases hm
  | cons a l ih =>
    simp only [List.map_cons, List.sum_cons]
    rcases List.mem_cons.1 hm with rfl | h
    · omega
    · have := ih h; omega
theorem row_of {α : Type} {w : World} {sz : Nat} {f : α → List Value} {a : Option Addr} {n c : Nat} {l : List α} (h : ∃ a' n' c', (Value.slice a n c) = .slice a' n' c' ∧ RowOf w sz f a' n' c' l) : RowOf w sz f a n c l := by
  obtain ⟨a', n', c', e, h⟩ := h
  injection e with e1 e2 e3
  subst e1 e2 e3
  exact h
def LI (w0 : World) (pB mB k : Nat) (wr : World) : Prop := ∃ ρ bB a q S, LT w0 pB mB k ρ bB a q S S wr
theorem LT.start0 {w W : World} (h1 : Blk W w.heap.size 93 [.slice none 0 0, .int .i64 0]) (h2 : Blk W (w.heap.size + 1) 45 (plC w.heap.size ⟨0, 0, 0⟩)) (h3 : Blk W (w.heap.size + 1 + 1) 31 (stC S0)) (h4 : Below w.heap.size w W) : LT w (w.heap.size + 1) (w.heap.size + 1 + 1) 0 (fup (fup (fun _ => 0) w.heap.size 2) (w.heap.size + 1) 1) w.heap.size none 0 S0 S0 W := by
  have hs := h3.lt
  refine ⟨⟨h2, fup_self _ _ _, ⟨h1, by rw [fup_ne _ _ (by omega), fup_self], .inl ⟨rfl, rfl, rfl⟩, by omega, Nat.zero_le _⟩, fun g hg => ?_⟩, h3, by rw [fup_ne _ _ (by omega), fup_ne _ _ (by omega)], h4, fun g hg => by rw [fup_ne _ _ (by omega), fup_ne _ _ (by omega)], by omega, Nat.zero_le _, Nat.zero_le _⟩
  by_cases e1 : g = w.heap.size + 1
  · omega
  · rw [fup_ne _ _ e1] at hg
    by_cases e2 : g = w.heap.size
    · omega
    · rw [fup_ne _ _ e2] at hg
      exact absurd rfl hg
theorem LT.start (w : World) : LT w (w.heap.size + 1) (w.heap.size + 1 + 1) 0 (fup (fup (fun _ => 0) w.heap.size 2) (w.heap.size + 1) 1) w.heap.size none 0 S0 S0 (((w.alloc (.cells #[.slice none 0 0, .int .i64 0] 93)).alloc (.cells #[.pointer (some ⟨w.heap.size, 0, none⟩), .int .i64 0, .int .i64 0, .int .i64 0] 45)).alloc (.cells #[.string ⟨#[]⟩, .int .i64 0, .int .i64 0, .int .i64 0, .int .i64 0] 31)) := by
  obtain ⟨h1, h2, h3, h4⟩ := three_new w [.slice none 0 0, .int .i64 0] (plC w.heap.size ⟨0, 0, 0⟩) (stC S0) 93 45 31
  exact LT.start0 h1 h2 h3 h4
set_option maxRecDepth 1000000
set_option maxHeartbeats 4000000
theorem refText_walk (a : Option Addr) (n c : Nat) (l : List TOp) (w : World) (hs : Script w a n c l) (hN : Nms w) :
    Calls Tryd.prog 3 #[.slice a n c] w fun e w' => e = .returned (.bool true) ∧ Below w.heap.size w w' := by
  have HS := hid hs
  have HNm := hid hN
  clear hs hN
  go_enter Tryd.func3, Tryd.ntmps3
  go_wp2_with fail
  refine (small_walk a n c l _ HS.out).mono ?_
  rintro e w' ⟨r, rfl, rfl, hr⟩
  cases r with
  | false =>
    go_wp2
    go_ret
    exact ⟨rfl, Below.refl _ _⟩
  | true =>
  have hsm := hr rfl
  have Hsm := hid hsm
  have hn : n ≤ 65536 := by omega
  have hni : (n : Int) ≤ 65536 := by omega
  clear hr hsm
  have HP := hid (newPlayer_walk w')
  have HL0 := hid (LT.start w')
  unfold NpP at HP
  obtain ⟨g, hg⟩ : ∃ g, w'.heap.size = g := ⟨_, rfl⟩
  rw [hg] at HP HL0
  go_wp2_with fail
  refine HP.out.mono ?_
  rintro e1 w1 ⟨rfl, rfl⟩
  clear HP
  go_upto_region 4 with fail
  generalize hw1 : ((w'.alloc (.cells #[.slice none 0 0, .int .i64 0] 93)).alloc (.cells #[.pointer (some ⟨g, 0, none⟩), .int .i64 0, .int .i64 0, .int .i64 0] 45)).alloc (.cells #[.string ⟨#[]⟩, .int .i64 0, .int .i64 0, .int .i64 0, .int .i64 0] 31) = w1 at HL0 ⊢
  have HLI : Hid (LI w' (g + 1) (g + 1 + 1) 0 w1) := hid ⟨_, _, _, _, _, HL0.out⟩
  have Hgm : Hid (w'.heap.size = g) := hid hg
  clear hw1 HL0 hg
  go_wp2_with fail
  go_loopw [15] (fun v wr => ∃ i : Nat, i ≤ n ∧ v = .int .i64 (i : Int) ∧ Hid (LI w' (g + 1) (g + 1 + 1) i wr)) (fun v _ => n - (intOf v).toNat)
  case atStart => exact ⟨0, by omega, rfl, HLI⟩
  case round =>
  clear HLI
  obtain ⟨i, hi, rfl, HLI⟩ := hrel
  by_cases hin : i < n
  rotate_left
  · have di : decide ((i : Int) < (n : Int)) = false := decide_eq_false (by omega)
    have HB : Hid (Below w'.heap.size w' wr) := hid (by obtain ⟨ρ, bB, a, q, S, h⟩ := HLI.out; exact h.be)
    clear HLI
    go_wp2
    go_ret
    exact ⟨rfl, HB.out⟩
  obtain ⟨ρ, bB, a3, q3, S, hE⟩ := HLI.out
  have HE := hid hE
  clear hE HLI
  have di : decide ((i : Int) < (n : Int)) = true := decide_eq_true (by omega)
  have hii : (i : Int) < (n : Int) := by omega
  obtain ⟨o, ho, hok, b, off, rfl, hb, c0, c1, c2, c3, c4, c5, c6, c7⟩ := (HS.out.below HE.out.be).at hin
  have HOS : Hid (OpS o) := hid (by
    have h1 := op_le ho
    have h2 := Hsm.out
    unfold opW at h1
    exact ⟨hok.fa, by omega, by omega, by omega, by rw [hok.list.len]; omega, by rw [hok.recs.len]; omega⟩)
  have HOk : Hid (OpOk w' o) := hid (HS.out.2 o (List.mem_of_getElem? ho))
  obtain ⟨O, S', hB⟩ := step_both S o HOS.out (by have := HE.out.bs; omega) HE.out.lim
  have HB := hid hB
  clear ho hok hB
  obtain ⟨ob, hob⟩ : ∃ p, wr.heap.size = p := ⟨_, rfl⟩
  obtain ⟨kind, oa, ob2, oc, s, t, la, ln, lc, list, ra, rn, rc, recs⟩ := o
  dsimp only at c0 c1 c2 c3 c4 c5 c6 c7
  go_upto_region 7 with fail
  have HW3 : Hid (LT w' (g + 1) (g + 1 + 1) i ρ bB a3 q3 S S (wr.alloc (.cells #[.int .i64 kind, .int .i64 oa, .int .i64 ob2, .int .i64 oc, .string s, .string t, .slice la ln lc, .slice ra rn rc] 36)) ∧ Blk (wr.alloc (.cells #[.int .i64 kind, .int .i64 oa, .int .i64 ob2, .int .i64 oc, .string s, .string t, .slice la ln lc, .slice ra rn rc] 36)) ob 36 (opCells ⟨kind, oa, ob2, oc, s, t, la, ln, lc, list, ra, rn, rc, recs⟩) ∧ ρ ob = 0) := hid (by
    have hbk := Blk.new wr (opCells ⟨kind, oa, ob2, oc, s, t, la, ln, lc, list, ra, rn, rc, recs⟩) 36
    rw [hob] at hbk
    exact ⟨HE.out.below (nbel wr _), hbk, HE.out.pl.zero (by omega)⟩)
  have Hom : Hid (ob ≠ g + 1 + 1) := hid (by have := HE.out.mb.lt; omega)
  generalize hw3 : wr.alloc (.cells #[.int .i64 kind, .int .i64 oa, .int .i64 ob2, .int .i64 oc, .string s, .string t, .slice la ln lc, .slice ra rn rc] 36) = w3 at HW3 ⊢
  clear hw3 hob c0 c1 c2 c3 c4 c5 c6 c7 HE
  have HS8 : Hid (∀ wx : World, Blk wx ob 36 (opCells ⟨kind, oa, ob2, oc, s, t, la, ln, lc, list, ra, rn, rc, recs⟩) → wx.cell? ⟨ob, 0, none⟩ = some (.int .i64 kind) ∧ wx.cell? ⟨ob, 1, none⟩ = some (.int .i64 oa) ∧ wx.cell? ⟨ob, 2, none⟩ = some (.int .i64 ob2) ∧ wx.cell? ⟨ob, 3, none⟩ = some (.int .i64 oc) ∧ wx.cell? ⟨ob, 4, none⟩ = some (.string s) ∧ wx.cell? ⟨ob, 5, none⟩ = some (.string t) ∧ wx.cell? ⟨ob, 6, none⟩ = some (.slice la ln lc) ∧ wx.cell? ⟨ob, 7, none⟩ = some (.slice ra rn rc)) := hid (fun wx h => ⟨h.cell 0, h.cell 1, h.cell 2, h.cell 3, h.cell 4, h.cell 5, h.cell 6, h.cell 7⟩)
  refine wp_region_heavy (fun wx => wx.cell? ⟨ob, 0, none⟩ = some (.int .i64 kind) ∧ wx.cell? ⟨ob, 1, none⟩ = some (.int .i64 oa) ∧ wx.cell? ⟨ob, 2, none⟩ = some (.int .i64 ob2) ∧ wx.cell? ⟨ob, 3, none⟩ = some (.int .i64 oc) ∧ wx.cell? ⟨ob, 4, none⟩ = some (.string s) ∧ wx.cell? ⟨ob, 5, none⟩ = some (.string t) ∧ wx.cell? ⟨ob, 6, none⟩ = some (.slice la ln lc) ∧ wx.cell? ⟨ob, 7, none⟩ = some (.slice ra rn rc)) 7 [0, 1, 3, 4] [2, 5, 6] rfl (by kernel_rfl) (by kernel_rfl) (fun d _ _ _ _ h => by cases d <;> exact h) (HS8.out _ (HW3.out.2.1.below (Drew.below ⟨1, rfl⟩ _))) ?_
  apply Exists.intro
  refine ⟨?_, ?_⟩
  · intro W hW
    have e1 := fun x => (hW x).1
    have e2 := fun x => (hW x).2.1
    have e3 := fun x => (hW x).2.2.1
    have e4 := fun x => (hW x).2.2.2.1
    have e5 := fun x => (hW x).2.2.2.2.1
    have e6 := fun x => (hW x).2.2.2.2.2.1
    have e7 := fun x => (hW x).2.2.2.2.2.2.1
    have e8 := fun x => (hW x).2.2.2.2.2.2.2
    simp only [List.take, opsAt, List.drop, List.cons_append, List.nil_append]
    repeat (go_big_quiet_step (fail))
    exact rfl
  simp only [List.take, List.drop, opsAt, List.cons_append, List.nil_append, wpHv]
  have HBd : Hid (Below w3.heap.size w3 w3.drew) := hid (Drew.below ⟨1, rfl⟩ _)
  generalize w3.drew = wd at HBd ⊢
  have HW4 : Hid (LT w' (g + 1) (g + 1 + 1) i ρ bB a3 q3 S S wd ∧ Blk wd ob 36 (opCells ⟨kind, oa, ob2, oc, s, t, la, ln, lc, list, ra, rn, rc, recs⟩) ∧ ρ ob = 0) := hid ⟨HW3.out.1.below HBd.out, HW3.out.2.1.below HBd.out, HW3.out.2.2⟩
  clear HBd HW3
  have e0 : (opCells ⟨kind, oa, ob2, oc, s, t, la, ln, lc, list, ra, rn, rc, recs⟩).toArray = #[.int .i64 kind, .int .i64 oa, .int .i64 ob2, .int .i64 oc, .string s, .string t, .slice la ln lc, .slice ra rn rc] := rfl
  have HPl := hid (HB.out.p wd ρ (g + 1) bB a3 q3 HW4.out.1.pl (HOk.out.below HW4.out.1.be) (HNm.out.below HW4.out.1.be))
  rw [e0] at HPl
  go_wp2_with fail
  refine HPl.out.mono ?_
  intro e4 w4 h4
  obtain ⟨lv, rv, ρ4, bB4, a4, q4, rfl, hl4, hr4, h5, hf4⟩ := HW4.out.1.real HB.out h4
  have HW5 : Hid (LT w' (g + 1) (g + 1 + 1) (i + 1) ρ4 bB4 a4 q4 S' S w4 ∧ Blk w4 ob 36 (opCells ⟨kind, oa, ob2, oc, s, t, la, ln, lc, list, ra, rn, rc, recs⟩)) := hid ⟨h5, hf4.keep HW4.out.2.1 HW4.out.2.2 rfl⟩
  have Hmd : Hid (g + 1 + 1 < wd.heap.size) := hid HW4.out.1.mb.lt
  have HL4 := hid hl4
  have HR4 := hid hr4
  have HMd := hid (HB.out.m w4 (g + 1 + 1) HW5.out.1.mb (HOk.out.below HW5.out.1.be))
  rw [e0] at HMd
  clear h4 hl4 hr4 h5 hf4 HPl HW4
  obtain ⟨la4, lq4, hlv⟩ := HL4.out.shape
  obtain ⟨ra4, rq4, hrv⟩ := HR4.out.shape
  subst hlv hrv
  obtain ⟨n1, hn1⟩ : ∃ x, O.list.length = x := ⟨_, rfl⟩
  obtain ⟨n2, hn2⟩ : ∃ x, O.recs.length = x := ⟨_, rfl⟩
  rw [hn1] at HL4
  rw [hn2] at HR4
  rw [hn1, hn2]
  have Hn1 := hid hn1
  have Hn2 := hid hn2
  have hz1 : n1 ≤ 65536 := by rw [← hn1]; exact HB.out.ll
  have hz2 : n2 ≤ 65536 := by rw [← hn2]; exact HB.out.rl
  obtain ⟨oc', of', oi, oj, os, olist, orecs⟩ := O
  dsimp only at HL4 HR4 Hn1 Hn2
  clear hn1 hn2
  have ev1 : ouV ⟨oc', of', oi, oj, os, olist, orecs⟩ (.slice la4 n1 lq4) (.slice ra4 n2 rq4) = .agg (ouC oc' of' oi oj os (.slice la4 n1 lq4) (.slice ra4 n2 rq4)).toArray := rfl
  rw [ev1]
  obtain ⟨v1, hv1⟩ : ∃ v, (ouC oc' of' oi oj os (.slice la4 n1 lq4) (.slice ra4 n2 rq4)).toArray = v := ⟨_, rfl⟩
  rw [hv1]
  have Hv1 := hid hv1
  clear hv1 ev1
  go_wp2_with fail
  refine ⟨HS8.out _ HW5.out.2, ?_⟩
  go_wp2_with fail
  refine HMd.out.mono ?_
  intro e5 w5 h5
  obtain ⟨lv2, rv2, rfl, hl5, hr5, h6, hu5⟩ := HW5.out.1.model h5
  have HW6 : Hid (LT w' (g + 1) (g + 1 + 1) (i + 1) ρ4 bB4 a4 q4 S' S' w5 ∧ Blk w5 ob 36 (opCells ⟨kind, oa, ob2, oc, s, t, la, ln, lc, list, ra, rn, rc, recs⟩)) := hid ⟨h6, HW5.out.2.of (hu5.block _ HW5.out.2.lt Hom.out)⟩
  dsimp only at hl5 hr5
  have HL5 := hid (HL4.out.upd hu5 (fun k hk => by have := HL4.out.hi k hk; have := Hmd.out; omega))
  have HR5 := hid (HR4.out.upd hu5 (fun k hk => by have := HR4.out.hi k hk; have := Hmd.out; omega))
  obtain ⟨lb5, lq5, hlv⟩ := hl5.shape
  obtain ⟨rb5, rq5, hrv⟩ := hr5.shape
  subst hlv hrv
  rw [Hn1.out] at hl5 ⊢
  rw [Hn2.out] at hr5 ⊢
  have HRows : Hid (RowOf w5 1 strCell la4 n1 lq4 olist ∧ RowOf w5 1 strCell lb5 n1 lq5 olist ∧ RowOf w5 2 recCells ra4 n2 rq4 orecs ∧ RowOf w5 2 recCells rb5 n2 rq5 orecs) := hid (by
    have g1 : olist.length ≤ 140737488351232 := by rw [Hn1.out]; omega
    have g2 : orecs.length ≤ 140737488351232 := by rw [Hn2.out]; omega
    exact ⟨row_of (HL5.out.rowS g1), row_of (hl5.rowS g1), row_of (HR5.out.rowK g2), row_of (hr5.rowK g2)⟩)
  have HSm := hid (same_walk oc' of' oi oj os la4 lb5 ra4 rb5 n1 lq4 lq5 n2 rq4 rq5 olist orecs hz1 hz2 w5 HRows.out.1 HRows.out.2.1 HRows.out.2.2.1 HRows.out.2.2.2)
  rw [Hv1.out] at HSm
  have ev2 : ouV ⟨oc', of', oi, oj, os, olist, orecs⟩ (.slice lb5 n1 lq5) (.slice rb5 n2 rq5) = .agg (ouC oc' of' oi oj os (.slice lb5 n1 lq5) (.slice rb5 n2 rq5)).toArray := rfl
  rw [ev2]
  obtain ⟨v2, hv2⟩ : ∃ v, (ouC oc' of' oi oj os (.slice lb5 n1 lq5) (.slice rb5 n2 rq5)).toArray = v := ⟨_, rfl⟩
  rw [hv2] at HSm ⊢
  clear hv2 ev2 h5 hl5 hr5 h6 hu5 HMd HW5 HL4 HR4 HL5 HR5 HRows
  go_wp2_with fail
  refine ⟨HS8.out _ HW6.out.2, ?_⟩
  go_wp2_with fail
  refine HSm.out.mono ?_
  rintro e6 w6 ⟨rfl, hb6⟩
  have HZ : Hid (LI w' (g + 1) (g + 1 + 1) (i + 1) w6) := hid ⟨_, _, _, _, _, HW6.out.1.below hb6⟩
  have HO6 := hid (HW6.out.2.below hb6)
  clear hb6 HSm HW6
  go_wp2_with fail
  refine ⟨HS8.out _ HO6.out, ?_⟩
  simp only [QN]
  go_wp2
  exact ⟨⟨i + 1, by omega, by go_num, HZ⟩, by simp [intOf]; omega⟩
end
end Go.Proofs.Qxb6500890aDoor
