/- reclaim, Access. -/
import Derived.Test.Qxb6500892aTqPap
namespace Go.Proofs.Qxb6500892a
open Go.RowKit
set_option linter.unusedSimpArgs false
set_option linter.unusedVariables false

theorem OR.mono {α : Type} {w : World} {B B' : Nat} {e : TypeId} {sz : Nat} {f : α → List Value} {v : Value} {l : List α} (h : OR w B e sz f v l) (hb : B' ≤ B) : OR w B' e sz f v l := by
  refine ⟨h.1, ?_⟩
  rcases h.2 with h2 | ⟨g, cap, cur, h2, h3, h4⟩
  · exact .inl h2
  · exact .inr ⟨g, cap, cur, h2, by omega, h4⟩
theorem OR.len {w : World} {B : Nat} {a : Option Addr} {n c : Nat} {l : List Nat} (h : OR w B 27 1 keyC (.slice a n c) l) : l.length = n := by
  rcases h.2 with ⟨h2, h3⟩ | ⟨g, cap, cur, h2, _⟩
  · cases h2; exact h3
  · cases h2; rfl
/-- A row without its last element. -/
theorem OR.init {w : World} {B : Nat} {a : Option Addr} {n c : Nat} {l : List Nat} (h : OR w B 27 1 keyC (.slice a (n + 1) c) l) : OR w B 27 1 keyC (.slice a n c) l.dropLast ∧ ∃ g, a = some ⟨g, 0, none⟩ ∧ n + 1 ≤ c ∧ w.cell? ⟨g, n, none⟩ = some (.int .u64 ((l.getLast?.getD 0 : Nat) : Int)) := by
  have hl := h.len
  rcases h.2 with ⟨h2, h3⟩ | ⟨g, cap, cur, h2, h3, h4, h5, h6, h7, h8⟩
  · cases h2
  · simp only [Value.slice.injEq] at h2
    obtain ⟨rfl, h2n, rfl⟩ := h2
    obtain ⟨A, z, rfl⟩ : ∃ A z, l = A ++ [z] := by
      cases hg : l.getLast? with
      | none => rw [List.getLast?_eq_none_iff] at hg; rw [hg] at hl; simp at hl
      | some z => exact ⟨_, z, (List.getLast?_eq_some_iff.1 hg).choose_spec⟩
    have hA : A.length = n := by simpa using hl
    rw [List.flatMap_append, List.length_append] at h8
    have hk : ∀ M : List Nat, (M.flatMap keyC).length = M.length := fun M => by rw [length_flatMap_const (f := keyC) (sz := 1) M (fun x _ => rfl)]; omega
    refine ⟨⟨by rw [List.dropLast_concat, hk]; omega, .inr ⟨g, c, cur, by rw [List.dropLast_concat, hA], h3, h4, by rw [List.dropLast_concat]; omega, h6, h7, ?_⟩⟩, g, rfl, by omega, ?_⟩
    · rw [List.dropLast_concat]
      have := congrArg (List.take (A.length * 1)) h8
      rw [List.take_take, Nat.min_eq_left (by simp), List.take_left' (by rw [hk]; omega)] at this
      exact this
    · have hc : w.cell? ⟨g, n, none⟩ = cur.toList[n]? := by simp [World.cell?, h4]
      have h9 : (List.take ((A.length + [z].length) * 1) cur.toList)[n]? = (A.flatMap keyC ++ [z].flatMap keyC)[n]? := by rw [h8]
      rw [List.getElem?_take, if_pos (by simp; omega), List.getElem?_append_right (by rw [hk]; omega), hk, hA, Nat.sub_self] at h9
      rw [hc, h9, List.getLast?_concat]
      rfl
structure PPv (B pb sl kin kout : Nat) (a1 : Option Addr) (n1 c1 : Nat) (a2 : Option Addr) (n2 c2 : Nat) (a3 : Option Addr) (n3 c3 : Nat) (I O M : List Nat) (w : World) : Prop where
  bk : Blk w pb 37 [.int .i64 (sl : Int), .int .i64 (kin : Int), .int .i64 (kout : Int), .slice a1 n1 c1, .slice a2 n2 c2, .slice a3 n3 c3]
  o1 : OR w B 27 1 keyC (.slice a1 n1 c1) I
  o2 : OR w B 27 1 keyC (.slice a2 n2 c2) O
  o3 : OR w B 27 1 keyC (.slice a3 n3 c3) M
  lb : B ≤ pb
  b1 : I.length ≤ 200000
  b2 : O.length ≤ 200000
  b3 : M.length ≤ 200000
def PP (B pb sl kin kout : Nat) (P : List Nat × List Nat × List Nat) (w : World) : Prop := ∃ a1 n1 c1 a2 n2 c2 a3 n3 c3, PPv B pb sl kin kout a1 n1 c1 a2 n2 c2 a3 n3 c3 P.1 P.2.1 P.2.2 w
section
variable {B pb sl kin kout : Nat} {a1 : Option Addr} {n1 c1 : Nat} {a2 : Option Addr} {n2 c2 : Nat} {a3 : Option Addr} {n3 c3 : Nat} {I O M l : List Nat} {w w' : World} {a : Option Addr} {n c : Nat}
theorem PPv.below (h : PPv B pb sl kin kout a1 n1 c1 a2 n2 c2 a3 n3 c3 I O M w) (hb : Below w.heap.size w w') : PPv B pb sl kin kout a1 n1 c1 a2 n2 c2 a3 n3 c3 I O M w' := ⟨h.bk.below hb, h.o1.below hb, h.o2.below hb, h.o3.below hb, h.lb, h.b1, h.b2, h.b3⟩
theorem OR.setP {v : Value} {j : Nat} {u : Value} {ds : List Value} (h : OR w B 27 1 keyC v l) (hb : Blk w pb 37 ds) : OR (w.setCell ⟨pb, j, none⟩ u) B 27 1 keyC v l :=
  h.keep fun g hg => ((Upd.refl pb w).setCell rfl u : Upd pb w (w.setCell ⟨pb, j, none⟩ u)).block g (h.lt hg) (fun e => by obtain ⟨_, cs, hc⟩ := h.blk hg; exact hc.tne hb (by decide) e)
theorem PPv.put1 (h : PPv B pb sl kin kout a1 n1 c1 a2 n2 c2 a3 n3 c3 I O M w) (ho : OR w B 27 1 keyC (.slice a n c) l) (hl : l.length ≤ 200000) : PPv B pb sl kin kout a n c a2 n2 c2 a3 n3 c3 l O M (w.setCell ⟨pb, 3, none⟩ (.slice a n c)) := ⟨h.bk.set 3 _, ho.setP h.bk, h.o2.setP h.bk, h.o3.setP h.bk, h.lb, hl, h.b2, h.b3⟩
theorem PPv.put2 (h : PPv B pb sl kin kout a1 n1 c1 a2 n2 c2 a3 n3 c3 I O M w) (ho : OR w B 27 1 keyC (.slice a n c) l) (hl : l.length ≤ 200000) : PPv B pb sl kin kout a1 n1 c1 a n c a3 n3 c3 I l M (w.setCell ⟨pb, 4, none⟩ (.slice a n c)) := ⟨h.bk.set 4 _, h.o1.setP h.bk, ho.setP h.bk, h.o3.setP h.bk, h.lb, h.b1, hl, h.b3⟩
theorem PPv.put3 (h : PPv B pb sl kin kout a1 n1 c1 a2 n2 c2 a3 n3 c3 I O M w) (ho : OR w B 27 1 keyC (.slice a n c) l) (hl : l.length ≤ 200000) : PPv B pb sl kin kout a1 n1 c1 a2 n2 c2 a n c I O l (w.setCell ⟨pb, 5, none⟩ (.slice a n c)) := ⟨h.bk.set 5 _, h.o1.setP h.bk, h.o2.setP h.bk, ho.setP h.bk, h.lb, h.b1, h.b2, hl⟩
theorem OR.rowK {v : Value} (h : OR w B 27 1 keyC (.slice a n c) l) (hl : l.length ≤ 200000) : RowOf w 1 keyC a n c l := h.row' (by decide) (fun _ => rfl) (by omega)
set_option maxRecDepth 100000 in
set_option maxHeartbeats 2000000 in
theorem reclaim_walk (h : PPv B pb sl kin kout a1 n1 c1 a2 n2 c2 a3 n3 c3 I O M w) (hk : kin < sl) (hko : kout ≤ 100000) (hO : O.length ≤ kout) :
    Calls Try.prog 18 #[.pointer (some ⟨pb, 0, none⟩)] w fun y w' => y = .returned (.tuple #[]) ∧ PP B pb sl kin kout (recP sl kin kout (I, O, M)) w' ∧ Upd pb w w' := by
  have HP := hid h
  have hl1 := h.o1.len
  have hl2 := h.o2.len
  have hl3 := h.o3.len
  have hb1 := h.b1
  have hb2 := h.b2
  have hb3 := h.b3
  have hn1 : n1 ≤ 200000 := by omega
  have hn2 : n2 ≤ 200000 := by omega
  have hn3 : n3 ≤ 200000 := by omega
  have hn2k : n2 ≤ kout := by omega
  have HLn := hid (And.intro hl1 (And.intro hl2 hl3))
  clear h hl1 hl2 hl3 hb1 hb2 hb3 hO
  have t0 : ∀ nn, (w.drewN nn).cell? ⟨pb, 0, none⟩ = some (.int .i64 (sl : Int)) := fun nn => HP.out.bk.cell 0
  have t3 : ∀ nn, (w.drewN nn).cell? ⟨pb, 3, none⟩ = some (.slice a1 n1 c1) := fun nn => HP.out.bk.cell 3
  have t5 : ∀ nn, (w.drewN nn).cell? ⟨pb, 5, none⟩ = some (.slice a3 n3 c3) := fun nn => HP.out.bk.cell 5
  obtain ⟨B0, hB0⟩ : ∃ b, decide ((n1 : Int) + (n3 : Int) < (sl : Int)) = b := ⟨_, rfl⟩
  go_enter Try.func18, Try.ntmps18
  go_upto_region 0 with fail
  go_quiet (fail)
  have HP1 : Hid (PPv B pb sl kin kout a1 n1 c1 a2 n2 c2 a3 n3 c3 I O M (w.drewN nq)) := hid (HP.out.below (Drew.below ⟨nq, rfl⟩ _))
  have HU1 : Hid (Upd pb w (w.drewN nq)) := hid ((Upd.refl pb w).drewN nq)
  generalize w.drewN nq = w1 at HP1 HU1 ⊢
  clear t0 t3 t5 HP
  cases B0 with
  | true =>
    as_aux_lemma =>
    have HF : Hid (PP B pb sl kin kout (recP sl kin kout (I, O, M)) w1) := hid (by
      have h1 := of_decide_eq_true hB0
      have hr : recP sl kin kout (I, O, M) = (I, O, M) := by
        unfold recP
        rw [if_pos (show I.length + M.length < sl by have := HLn.out; omega)]
      rw [hr]
      exact ⟨_, _, _, _, _, _, _, _, _, HP1.out⟩)
    clear hB0 HP1
    go_wp2
    refine bodyPost_ret (results_none Try.results18 _ _ _) rfl ?_
    exact ⟨rfl, HF.out, HU1.out⟩
  | false =>
  have hfu : ¬ (n1 + n3 < sl) := by have := of_decide_eq_false hB0; omega
  have Hfu := hid hfu
  clear hB0 hfu
  have t1 : ∀ nn, (w1.drewN nn).cell? ⟨pb, 1, none⟩ = some (.int .i64 (kin : Int)) := fun nn => HP1.out.bk.cell 1
  have t3 : ∀ nn, (w1.drewN nn).cell? ⟨pb, 3, none⟩ = some (.slice a1 n1 c1) := fun nn => HP1.out.bk.cell 3
  obtain ⟨B1, hB1⟩ : ∃ b, decide (kin < n1) = b := ⟨_, rfl⟩
  have hB2 : decide ((n1 : Int) > (kin : Int)) = B1 := by rw [← hB1]; exact decide_eq_decide.2 (by omega)
  have hB3 : decide ((kin : Int) < (n1 : Int)) = B1 := hB2
  go_upto_region 1 with fail
  go_quiet (fail)
  have HP2 : Hid (PPv B pb sl kin kout a1 n1 c1 a2 n2 c2 a3 n3 c3 I O M (w1.drewN nq)) := hid (HP1.out.below (Drew.below ⟨nq, rfl⟩ _))
  have HU2 : Hid (Upd pb w (w1.drewN nq)) := hid (HU1.out.drewN nq)
  generalize w1.drewN nq = w2 at HP2 HU2 ⊢
  clear t1 t3 HP1 HU1
  cases B1 with
  | false =>
    as_aux_lemma =>
    have hk2 : ¬ kin < n1 := of_decide_eq_false hB1
    obtain ⟨m, rfl⟩ : ∃ m, n3 = m + 1 := ⟨n3 - 1, by have := Hfu.out; omega⟩
    obtain ⟨hin, g, rfl, hmc, hcell⟩ := HP2.out.o3.init
    have HIn := hid hin
    have hmm : ((m + 1 : Nat) : Int) - 1 = (m : Int) := by omega
    clear hB1 hB2 hB3 hcell hin
    go_upto_region 7 with fail
    have HP2d : Hid (PPv B pb sl kin kout a1 n1 c1 a2 n2 c2 (some ⟨g, 0, none⟩) (m + 1) c3 I O M w2.drew) := hid (HP2.out.below (Drew.below ⟨1, rfl⟩ _))
    refine wp_region_heavy (fun w' => w'.cell? ⟨pb, 5, none⟩ = some (.slice (some ⟨g, 0, none⟩) (m + 1) c3)) 12 [0, 1, 2, 3, 4, 5, 6, 7, 8, 9, 10, 11] [] rfl (by kernel_rfl) (by kernel_rfl) (fun d _ _ _ _ h => by cases d <;> exact h) (HP2d.out.bk.cell 5) ?_
    apply Exists.intro
    refine ⟨?_, ?_⟩
    · intro W hW
      have d0 : ∀ u, (W u).cell? ⟨pb, 5, none⟩ = some (.slice (some ⟨g, 0, none⟩) (m + 1) c3) := fun u => hW u
      clear hW
      simp only [List.take, opsAt, List.drop, List.cons_append, List.nil_append]
      repeat (go_big_quiet_step (fail))
      exact rfl
    simp only [List.take, List.drop, opsAt, List.cons_append, List.nil_append, wpHv, QN]
    have HU3 : Hid (Upd pb w w2.drew) := hid (HU2.out.drewN 1)
    generalize w2.drew = wd at HP2d HU3 ⊢
    have zc : wd.cell? ⟨pb, 5, none⟩ = some (.slice (some ⟨g, 0, none⟩) (m + 1) c3) := HP2d.out.bk.cell 5
    have zf : wd.frozen? ⟨pb, 5, none⟩ = false := HP2d.out.bk.frozen 5
    have HF : Hid (PP B pb sl kin kout (recP sl kin kout (I, O, M)) (wd.setCell ⟨pb, 5, none⟩ (.slice (some ⟨g, 0, none⟩) m c3)) ∧ Upd pb w (wd.setCell ⟨pb, 5, none⟩ (.slice (some ⟨g, 0, none⟩) m c3))) := hid (by
      have hr : recP sl kin kout (I, O, M) = (I, O, M.dropLast) := by
        unfold recP
        rw [if_neg (show ¬ I.length + M.length < sl by have := HLn.out; have := Hfu.out; omega), if_neg (show ¬ kin < I.length by have := HLn.out; omega)]
      rw [hr]
      obtain ⟨hin2, _⟩ := HP2d.out.o3.init
      exact ⟨⟨_, _, _, _, _, _, _, _, _, HP2d.out.put3 hin2 (Nat.le_trans (by rw [List.length_dropLast]; omega) HP2d.out.b3)⟩, HU3.out.setCell rfl _⟩)
    clear HP2 HP2d HIn HU2 HU3 HLn
    go_wp2
    refine bodyPost_end (results_none Try.results18 _ _ _) rfl ?_
    exact ⟨rfl, HF.out.1, HF.out.2⟩
  | true =>
  as_aux_lemma =>
  have hk2 : kin < n1 := of_decide_eq_true hB1
  have Hk2 := hid hk2
  obtain ⟨m, rfl⟩ : ∃ m, n1 = m + 1 := ⟨n1 - 1, by omega⟩
  obtain ⟨hin, g, rfl, hmc, hcell⟩ := HP2.out.o1.init
  have hmm : ((m + 1 : Nat) : Int) - 1 = (m : Int) := by omega
  have hm1 : (m : Int) < ((m + 1 : Nat) : Int) := by omega
  obtain ⟨y, hy⟩ : ∃ y, I.getLast?.getD 0 = y := ⟨_, rfl⟩
  rw [hy] at hcell
  have HY := hid hy
  clear hB1 hB2 hB3 hin hk2 hy
  have t3 : ∀ nn, (w2.drewN nn).cell? ⟨pb, 3, none⟩ = some (.slice (some ⟨g, 0, none⟩) (m + 1) c1) := fun nn => HP2.out.bk.cell 3
  have t4 : ∀ nn, (w2.drewN nn).cell? ⟨g, m, none⟩ = some (.int .u64 (y : Int)) := fun nn => hcell
  go_upto_region 2 with fail
  go_quiet (fail)
  have HP3 : Hid (PPv B pb sl kin kout (some ⟨g, 0, none⟩) (m + 1) c1 a2 n2 c2 a3 n3 c3 I O M (w2.drewN nq)) := hid (HP2.out.below (Drew.below ⟨nq, rfl⟩ _))
  have HU3' : Hid (Upd pb w (w2.drewN nq)) := hid (HU2.out.drewN nq)
  generalize w2.drewN nq = w3 at HP3 HU3' ⊢
  clear t3 t4 HP2 HU2 hcell
  go_upto_region 3 with fail
  have HP3d : Hid (PPv B pb sl kin kout (some ⟨g, 0, none⟩) (m + 1) c1 a2 n2 c2 a3 n3 c3 I O M w3.drew) := hid (HP3.out.below (Drew.below ⟨1, rfl⟩ _))
  refine wp_region_heavy (fun w' => w'.cell? ⟨pb, 3, none⟩ = some (.slice (some ⟨g, 0, none⟩) (m + 1) c1)) 12 [0, 1, 2, 3, 4, 5, 6, 7, 8, 9, 10, 11] [] rfl (by kernel_rfl) (by kernel_rfl) (fun d _ _ _ _ h => by cases d <;> exact h) (HP3d.out.bk.cell 3) ?_
  apply Exists.intro
  refine ⟨?_, ?_⟩
  · intro W hW
    have d0 : ∀ u, (W u).cell? ⟨pb, 3, none⟩ = some (.slice (some ⟨g, 0, none⟩) (m + 1) c1) := fun u => hW u
    clear hW
    simp only [List.take, opsAt, List.drop, List.cons_append, List.nil_append]
    repeat (go_big_quiet_step (fail))
    exact rfl
  simp only [List.take, List.drop, opsAt, List.cons_append, List.nil_append, wpHv, QN]
  have HU3 : Hid (Upd pb w w3.drew) := hid (HU3'.out.drewN 1)
  generalize w3.drew = wd at HP3d HU3 ⊢
  have zc : wd.cell? ⟨pb, 3, none⟩ = some (.slice (some ⟨g, 0, none⟩) (m + 1) c1) := HP3d.out.bk.cell 3
  have zf : wd.frozen? ⟨pb, 3, none⟩ = false := HP3d.out.bk.frozen 3
  have HP4 : Hid (PPv B pb sl kin kout (some ⟨g, 0, none⟩) m c1 a2 n2 c2 a3 n3 c3 I.dropLast O M (wd.setCell ⟨pb, 3, none⟩ (.slice (some ⟨g, 0, none⟩) m c1)) ∧ Upd pb w (wd.setCell ⟨pb, 3, none⟩ (.slice (some ⟨g, 0, none⟩) m c1))) := hid (by
    obtain ⟨hin2, _⟩ := HP3d.out.o1.init
    exact ⟨HP3d.out.put1 hin2 (Nat.le_trans (by rw [List.length_dropLast]; omega) HP3d.out.b1), HU3.out.setCell rfl _⟩)
  clear HP3 HP3d HU3' HU3
  go_upto_region 4 with fail
  clear zc zf
  generalize wd.setCell ⟨pb, 3, none⟩ (.slice (some ⟨g, 0, none⟩) m c1) = w4 at HP4 ⊢
  have z4 : w4.cell? ⟨pb, 4, none⟩ = some (.slice a2 n2 c2) := HP4.out.1.bk.cell 4
  have HAt := hid (atHead_walk (HP4.out.1.o2.rowK (v := .slice none 0 0) HP4.out.1.b2) (by omega) y)
  go_wp2_with fail
  refine HAt.out.mono ?_
  rintro y5 w5 ⟨a5, n5, c5, rfl, ho5, hb5⟩
  have HP5 := hid (HP4.out.1.below hb5)
  have HU5 := hid (HP4.out.2.ofBelow hb5)
  have hl5 := ho5.len
  have HO5 : Hid (OR w5 B 27 1 keyC (.slice a5 n5 c5) (y :: O)) := hid (ho5.mono (by have := HP4.out.1.bk.lt; have := HP4.out.1.lb; omega))
  have hl5' : n2 + 1 = n5 := by rw [← hl5, List.length_cons, HLn.out.2.1]
  clear ho5 hb5 HAt z4 HP4 hl5
  have zc : w5.cell? ⟨pb, 4, none⟩ = some (.slice a2 n2 c2) := HP5.out.bk.cell 4
  have zf : w5.frozen? ⟨pb, 4, none⟩ = false := HP5.out.bk.frozen 4
  have HP6 : Hid (PPv B pb sl kin kout (some ⟨g, 0, none⟩) m c1 a5 n5 c5 a3 n3 c3 I.dropLast (y :: O) M (w5.setCell ⟨pb, 4, none⟩ (.slice a5 n5 c5)) ∧ Upd pb w (w5.setCell ⟨pb, 4, none⟩ (.slice a5 n5 c5))) := hid ⟨HP5.out.put2 HO5.out (by rw [List.length_cons]; have := HLn.out; omega), HU5.out.setCell rfl _⟩
  clear HP5 HU5 HO5
  go_upto_region 5 with fail
  clear zc zf
  generalize w5.setCell ⟨pb, 4, none⟩ (.slice a5 n5 c5) = w6 at HP6 ⊢
  have t2 : ∀ nn, (w6.drewN nn).cell? ⟨pb, 2, none⟩ = some (.int .i64 (kout : Int)) := fun nn => HP6.out.1.bk.cell 2
  have t4 : ∀ nn, (w6.drewN nn).cell? ⟨pb, 4, none⟩ = some (.slice a5 n5 c5) := fun nn => HP6.out.1.bk.cell 4
  obtain ⟨B2, hB2⟩ : ∃ b, decide (kout < n5) = b := ⟨_, rfl⟩
  have hB3 : decide ((n5 : Int) > (kout : Int)) = B2 := by rw [← hB2]; exact decide_eq_decide.2 (by omega)
  have hB4 : decide ((kout : Int) < (n5 : Int)) = B2 := hB3
  have hn5 : n5 ≤ 300000 := by omega
  go_quiet (fail)
  have HP7 : Hid (PPv B pb sl kin kout (some ⟨g, 0, none⟩) m c1 a5 n5 c5 a3 n3 c3 I.dropLast (y :: O) M (w6.drewN nq) ∧ Upd pb w (w6.drewN nq)) := hid ⟨HP6.out.1.below (Drew.below ⟨nq, rfl⟩ _), HP6.out.2.drewN nq⟩
  generalize w6.drewN nq = w7 at HP7 ⊢
  clear t2 t4 HP6
  have Hrec : Hid (recP sl kin kout (I, O, M) = (I.dropLast, (if kout < n5 then (y :: O).dropLast else y :: O), M)) := hid (by
    unfold recP
    have e1 : ¬ I.length + M.length < sl := by have := HLn.out; have := Hfu.out; omega
    have e2 : kin < I.length := by have := HLn.out; have := Hk2.out; omega
    have e3 : O.length + 1 = n5 := by rw [HLn.out.2.1]; exact hl5'
    rw [if_neg (show ¬ (I, O, M).1.length + (I, O, M).2.2.length < sl from e1), if_pos (show kin < (I, O, M).1.length from e2)]
    show (I.dropLast, (if kout < O.length + 1 then (I.getLast?.getD 0 :: O).dropLast else I.getLast?.getD 0 :: O), M) = _
    rw [HY.out, e3])
  cases B2 with
  | false =>
    as_aux_lemma =>
    have HF : Hid (PP B pb sl kin kout (recP sl kin kout (I, O, M)) w7) := hid (by
      rw [Hrec.out, if_neg (of_decide_eq_false hB2)]
      exact ⟨_, _, _, _, _, _, _, _, _, HP7.out.1⟩)
    have HU := hid HP7.out.2
    clear hB2 HP7 Hrec
    go_wp2
    refine bodyPost_ret (results_none Try.results18 _ _ _) rfl ?_
    exact ⟨rfl, HF.out, HU.out⟩
  | true =>
  as_aux_lemma =>
  have hB5 := of_decide_eq_true hB2
  obtain ⟨m5, rfl⟩ : ∃ m, n5 = m + 1 := ⟨n5 - 1, by omega⟩
  obtain ⟨_, g5, rfl, hmc5, _⟩ := HP7.out.1.o2.init
  have hmm5 : ((m5 + 1 : Nat) : Int) - 1 = (m5 : Int) := by omega
  clear hB2 hB3 hB4
  have Hrec2 : Hid (recP sl kin kout (I, O, M) = (I.dropLast, (y :: O).dropLast, M)) := hid (by rw [Hrec.out, if_pos hB5])
  clear hB5 Hrec
  go_upto_region 6 with fail
  have HP7d : Hid (PPv B pb sl kin kout (some ⟨g, 0, none⟩) m c1 (some ⟨g5, 0, none⟩) (m5 + 1) c5 a3 n3 c3 I.dropLast (y :: O) M w7.drew) := hid (HP7.out.1.below (Drew.below ⟨1, rfl⟩ _))
  have HU7d : Hid (Upd pb w w7.drew) := hid (HP7.out.2.drewN 1)
  refine wp_region_heavy (fun w' => w'.cell? ⟨pb, 4, none⟩ = some (.slice (some ⟨g5, 0, none⟩) (m5 + 1) c5)) 12 [0, 1, 2, 3, 4, 5, 6, 7, 8, 9, 10, 11] [] rfl (by kernel_rfl) (by kernel_rfl) (fun d _ _ _ _ h => by cases d <;> exact h) (HP7d.out.bk.cell 4) ?_
  apply Exists.intro
  refine ⟨?_, ?_⟩
  · intro W hW
    have d0 : ∀ u, (W u).cell? ⟨pb, 4, none⟩ = some (.slice (some ⟨g5, 0, none⟩) (m5 + 1) c5) := fun u => hW u
    clear hW
    simp only [List.take, opsAt, List.drop, List.cons_append, List.nil_append]
    repeat (go_big_quiet_step (fail))
    exact rfl
  simp only [List.take, List.drop, opsAt, List.cons_append, List.nil_append, wpHv, QN]
  generalize w7.drew = wd7 at HP7d HU7d ⊢
  have zc : wd7.cell? ⟨pb, 4, none⟩ = some (.slice (some ⟨g5, 0, none⟩) (m5 + 1) c5) := HP7d.out.bk.cell 4
  have zf : wd7.frozen? ⟨pb, 4, none⟩ = false := HP7d.out.bk.frozen 4
  have HF : Hid (PP B pb sl kin kout (recP sl kin kout (I, O, M)) (wd7.setCell ⟨pb, 4, none⟩ (.slice (some ⟨g5, 0, none⟩) m5 c5)) ∧ Upd pb w (wd7.setCell ⟨pb, 4, none⟩ (.slice (some ⟨g5, 0, none⟩) m5 c5))) := hid (by
    rw [Hrec2.out]
    obtain ⟨hin2, _⟩ := HP7d.out.o2.init
    exact ⟨⟨_, _, _, _, _, _, _, _, _, HP7d.out.put2 hin2 (Nat.le_trans (by rw [List.length_dropLast]; omega) HP7d.out.b2)⟩, HU7d.out.setCell rfl _⟩)
  clear HP7 HP7d HU7d Hrec2
  go_wp2
  refine bodyPost_ret (results_none Try.results18 _ _ _) rfl ?_
  exact ⟨rfl, HF.out.1, HF.out.2⟩
end
end Go.Proofs.Qxb6500892a
