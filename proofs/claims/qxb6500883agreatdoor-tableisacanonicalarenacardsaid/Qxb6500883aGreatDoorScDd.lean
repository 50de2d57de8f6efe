/- closeComponent. -/
import Derived.Test.Qxb6500883aGreatDoorScDc
namespace Go.Proofs.Qxb6500883aGreatDoor
open Go.RowKit
set_option linter.unusedSimpArgs false
set_option linter.unusedVariables false
/-- A component half closed: b2 is off the stack. -/
def TJ.half (T : TJ) (a b1 b2 : List Nat) (v : Nat) : TJ := { T with st := a ++ v :: b1, od := T.od ++ b2.reverse, cp := fun u => if u ∈ b2 then T.sz.length else T.cp u }
def onH (on : Nat → Bool) (b2 : List Nat) (u : Nat) : Bool := if u ∈ b2 then false else on u
section
variable {σ σ' : Rl} {w w' w1 w2 : World} {L : FL} {A : Gr} {va : Value} {T T' : TJ} {on on' : Nat → Bool} {vs vz vo vs' vz' vo' : Value}
set_option maxRecDepth 100000 in
set_option maxHeartbeats 4000000 in
theorem closeW (h : FM σ w L A va T on vs vz vo) {v : Nat} {a b : List Nat} (hs : T.st = a ++ v :: b) (hnd : T.st.Nodup) (hlt : ∀ u ∈ T.st, u < A.length) (hA : A.length ≤ 65536) (hz : T.sz.length ≤ 65536) (ho : T.od.length + T.st.length ≤ 65536) :
    Calls Tryz.prog 143 #[.pointer (some ⟨L.sB, 0, none⟩), .int .i32 (v : Int)] w fun e w' => e = .returned (.tuple #[]) ∧ Hid (FQ σ w L A va (T.close a b v) (onH on (v :: b)) w') := by
  obtain ⟨n, hn'⟩ : ∃ n, A.length = n := ⟨_, rfl⟩
  have Hn := hid hn'
  obtain ⟨id, hid'⟩ : ∃ k, T.sz.length = k := ⟨_, rfl⟩
  have Hid' := hid hid'
  have Hs := hid hs
  have Hnd := hid hnd
  have Hlt := hid hlt
  have Ho := hid ho
  obtain ⟨az, qz, hvz⟩ := h.z.shape
  rw [hid'] at hvz
  subst hvz
  have y6 : w.cell? ⟨L.sB, 6, none⟩ = some (.slice az id qz) := h.b.cell 6
  have HI0 : Hid (∃ b1 b2, b = b1 ++ b2 ∧ b2.length = 0 ∧ FQ σ w L A va (T.half a b1 b2 v) (onH on b2) w) := hid ⟨b, [], by simp, rfl, σ, vs, _, vo, (h.to (T' := T.half a b [] v) (fun _ _ => rfl) (fun _ _ => rfl) (fun u _ => by show T.cp u = if u ∈ ([] : List Nat) then T.sz.length else T.cp u; simp) hs rfl (by show T.od = T.od ++ [].reverse; simp) rfl).congr (fun u _ => by unfold onH; simp), Fr.refl _ _ _⟩
  obtain ⟨m, hm⟩ : ∃ m, b.length + 1 = m := ⟨_, rfl⟩
  have Hm := hid hm
  have hmb : m ≤ 65536 := by rw [hs] at ho; simp only [List.length_append, List.length_cons] at ho; omega
  have hidb : id ≤ 65536 := by omega
  clear h hs hnd hlt ho hm hid' hz hA hn'
  go_enter Tryz.func143, Tryz.ntmps143
  go_upto_region 2 with fail
  clear y6
  go_loopw [5] (fun t wr => ∃ j : Nat, t = .int .i32 (j : Int) ∧ j < m ∧ Hid (∃ b1 b2, b = b1 ++ b2 ∧ b2.length = j ∧ FQ σ w L A va (T.half a b1 b2 v) (onH on b2) wr)) (fun t _ => m - (intOf t).toNat)
  case atStart => exact ⟨0, rfl, by have := Hm.out; omega, HI0⟩
  case round =>
  clear HI0
  obtain ⟨j, rfl, hj, HI⟩ := hrel
  obtain ⟨b1, b2, hb, hb2, σ1, vs1, vz1, vo1, hF1, hfr1⟩ := HI.out
  have HF1 := hid hF1
  have Hfr1 := hid hfr1
  have Hb := hid hb
  have Hb2 := hid hb2
  obtain ⟨aS, qs, hvs⟩ := hF1.s.shape
  subst hvs
  obtain ⟨ns, hns⟩ : ∃ k, (T.half a b1 b2 v).st.length = k := ⟨_, rfl⟩
  obtain ⟨x, s0, hx⟩ : ∃ x s0, v :: b1 = s0 ++ [x] := ⟨(v :: b1).getLast (by simp), (v :: b1).dropLast, (List.dropLast_concat_getLast (by simp)).symm⟩
  have Hx := hid hx
  have hst : (T.half a b1 b2 v).st = (a ++ s0) ++ [x] := by show a ++ v :: b1 = _; rw [hx, List.append_assoc]
  have Hst := hid hst
  have hns1 : (a ++ s0).length + 1 = ns := by rw [← hns, hst]; simp; omega
  obtain ⟨ns0, hns0⟩ : ∃ k, (a ++ s0).length = k := ⟨_, rfl⟩
  rw [hns0] at hns1
  subst hns1
  have hxm : x ∈ T.st := by rw [Hs.out]; refine List.mem_append_right _ ?_; rw [Hb.out, ← List.cons_append, hx]; simp
  have hxn : x < n := by rw [← Hn.out]; exact Hlt.out x hxm
  have HXn := hid hxn
  have hfl : ns0 + 1 ≤ 65536 := by
    have := Ho.out
    rw [Hs.out, Hb.out] at this
    have h2 : (a ++ v :: b1).length = ns0 + 1 := hns
    simp only [List.length_append, List.length_cons] at this h2
    omega
  obtain ⟨gs, qs2, hsv, hgs, hcs⟩ := hF1.s.get (by decide) (fun _ => rfl) (i := ns0) (x := x) (by rw [hst, List.getElem?_append_right (by omega), hns0]; simp)
  rw [hns] at hsv
  injection hsv with e1 e2 e3
  subst e1 e3
  have y4 : wr.cell? ⟨L.sB, 4, none⟩ = some (.slice (some ⟨gs, 0, none⟩) (ns0 + 1) qs) := by rw [← hns]; exact hF1.b.cell 4
  have y4f : wr.frozen? ⟨L.sB, 4, none⟩ = false := hF1.b.frozen 4
  have yx : wr.cell? ⟨gs, ns0, none⟩ = some (.int .i32 (x : Int)) := by have := hcs 0 (by decide); simpa [rtJ] using this
  have hqs : ns0 + 1 ≤ qs ∧ qs ≤ maxLen := by
    have := hF1.s
    rw [hns] at this
    have := this.cap
    omega
  have Hns := hid hns
  have Hns0 := hid hns0
  have w1 : ((ns0 + 1 : Nat) : Int) - 1 = (ns0 : Int) := by omega
  have w2 : (ns0 : Int) < ((ns0 + 1 : Nat) : Int) := by omega
  have w3 : (ns0 : Int) ≤ (qs : Int) := by omega
  clear hb hb2 hF1 hfr1 hx hst hgs hcs HI hxm e2 hns hns0
  go_upto_region 2 with fail
  go_quiet (fail)
  have HDq : Hid (Drew wr (wr.drewN nq)) := hid ((Drew.refl wr).next nq)
  have x4 : (wr.drewN nq).cell? ⟨L.sB, 4, none⟩ = some (.slice (some ⟨gs, 0, none⟩) (ns0 + 1) qs) := y4
  have x4f : (wr.drewN nq).frozen? ⟨L.sB, 4, none⟩ = false := y4f
  generalize wr.drewN nq = wq at HDq x4 x4f ⊢
  clear y4 y4f yx
  go_upto_region 3 with fail
  obtain ⟨X0, W, hT, hI⟩ := class_mk (fun w' => Drew wq w')
  have H0 : Hid (∃ y, wq.drew = W y) := hid (hI _ ⟨1, rfl⟩)
  have hne : Nonempty X0 := ⟨H0.out.choose⟩
  have HTT := hid hT
  have a4 : ∀ z, (W z).cell? ⟨L.sB, 4, none⟩ = some (.slice (some ⟨gs, 0, none⟩) (ns0 + 1) qs) := fun y => by obtain ⟨m, e⟩ := hT y; rw [e]; exact x4
  have af : ∀ z, (W z).frozen? ⟨L.sB, 4, none⟩ = false := fun y => by obtain ⟨m, e⟩ := hT y; rw [e]; exact x4f
  clear hT hI
  refine wp_region_class_tailT W 12 (by kernel_rfl) (by kernel_rfl) (by kernel_rfl) H0.out ?_
  dsimp only [List.take, List.drop]
  repeat (go_big_quiet_step (fail))
  refine wpQuiet_nil ?_
  intro z
  have HD := hid (HTT.out z)
  have HB := hid ((HTT.out z).below wq.heap.size)
  have a4z := a4 z
  have afz := af z
  generalize W z = wb at HD HB a4z afz ⊢
  clear H0 HTT a4 af
  have HH2 : Hid (FM σ1 (wb.setCell ⟨L.sB, 4, none⟩ (.slice (some ⟨gs, 0, none⟩) ns0 qs)) L A va { T.half a b1 b2 v with st := a ++ s0 } (onH on b2) (.slice (some ⟨gs, 0, none⟩) ns0 qs) vz1 vo1 ∧ Fr XF σ w σ1 (wb.setCell ⟨L.sB, 4, none⟩ (.slice (some ⟨gs, 0, none⟩) ns0 qs))) := hid (by
    have hbl := (HDq.out.below wr.heap.size).trans (HB.out.mono (HDq.out.below wr.heap.size).size)
    obtain ⟨h1, h2⟩ := (HF1.out.below hbl).cutS (k := ns0) (by rw [Hns.out]; omega)
    rw [show (T.half a b1 b2 v).st.take ns0 = a ++ s0 by rw [Hst.out, ← Hns0.out, List.take_left]] at h1
    exact ⟨h1, (Hfr1.out.trans (Fr.below hbl)).trans h2⟩)
  clear x4 x4f
  go_upto_region 4 with fail
  generalize wb.setCell ⟨L.sB, 4, none⟩ (.slice (some ⟨gs, 0, none⟩) ns0 qs) = wc at HH2 ⊢
  clear a4z afz HD HB HF1 Hfr1 HDq
  have hba := HH2.out.1.b
  rw [Hn.out] at hba
  have z3 : wc.cell? ⟨L.sB, 3, none⟩ = some (.slice (some ⟨L.gO, 0, none⟩) n n) := hba.cell 3
  have zv : wc.cell? ⟨L.gO, x, none⟩ = some (.bool (onH on b2 x)) := HH2.out.1.o.get (by rw [Hn.out]; exact hxn)
  have zf : wc.frozen? ⟨L.gO, x, none⟩ = false := HH2.out.1.o.frozen x
  have hxi : (x : Int) < (n : Int) := by omega
  have HH3 := hid (HH2.out.1.setOn (v := x) (by rw [Hn.out]; exact hxn) false)
  clear hba
  go_upto_region 5 with fail
  generalize wc.setCell ⟨L.gO, x, none⟩ (.bool false) = wd at HH3 ⊢
  clear z3 zv zf
  have hba := HH3.out.1.b
  rw [Hn.out] at hba
  have z3 : wd.cell? ⟨L.sB, 5, none⟩ = some (.slice (some ⟨L.gC, 0, none⟩) n n) := hba.cell 5
  have zv : wd.cell? ⟨L.gC, x, none⟩ = some (.int .i32 (((T.half a b1 b2 v).cp x : Nat) : Int)) := HH3.out.1.c.get (by rw [Hn.out]; exact hxn)
  have zf : wd.frozen? ⟨L.gC, x, none⟩ = false := HH3.out.1.c.frozen x
  have HH4 := hid (HH3.out.1.setCp (v := x) (by rw [Hn.out]; exact hxn) id)
  clear hba
  go_upto_region 6 with fail
  generalize wd.setCell ⟨L.gC, x, none⟩ (.int .i32 (id : Int)) = we at HH4 ⊢
  clear z3 zv zf
  obtain ⟨ao, qo, hvo⟩ := HH4.out.1.d.shape
  subst hvo
  obtain ⟨no, hno⟩ : ∃ k, (T.half a b1 b2 v).od.length = k := ⟨_, rfl⟩
  have Hno := hid hno
  have y7 : we.cell? ⟨L.sB, 7, none⟩ = some (.slice ao no qo) := by rw [← hno]; exact HH4.out.1.b.cell 7
  have hno2 : no ≤ 65536 := by
    have h1 : (T.od ++ b2.reverse).length = no := hno
    have h2 := Ho.out
    rw [Hs.out, Hb.out] at h2
    simp only [List.length_append, List.length_cons, List.length_reverse] at h1 h2
    omega
  obtain ⟨qq, hqq⟩ : ∃ q, we.heap.size = q := ⟨_, rfl⟩
  obtain ⟨wf, hwf⟩ : ∃ y, we.alloc (.cells #[.int .i32 (x : Int)] 21) = y := ⟨_, rfl⟩
  have HN := hid (one_new we x hqq)
  rw [hwf] at HN
  clear hno
  go_wp2_with (at_builtin; refine stopHere ?_)
  intro _
  (try simp only [hqq, hwf])
  clear hqq hwf
  have HHf := hid (HH4.out.1.below HN.out.2)
  have hrc : RowX rtJ wf σ1 39 (.slice ao no qo) (T.half a b1 b2 v).od := by rw [← Hno.out]; exact HHf.out.d
  refine wpList_app_x okJ rfl _ _ hrc rfl [x] rfl (some ⟨qq, 0, none⟩) 1 1 rfl rfl (fun h => by cases h) HN.out.1 (by rw [Hno.out]; show (no + 1) * 4 ≤ _; omega) ?_
  intro v8 w8 σ8 hr8 hf8 _ _
  obtain ⟨a8, q8, h8⟩ := hr8.out.shape
  rw [List.length_append, List.length_singleton, Hno.out] at h8
  subst h8
  have hb8 := hf8.out.keep HHf.out.b HHf.out.rb rfl
  rw [Hno.out] at hb8
  have x7 : w8.cell? ⟨L.sB, 7, none⟩ = some (.slice ao no qo) := hb8.cell 7
  have x7f : w8.frozen? ⟨L.sB, 7, none⟩ = false := hb8.frozen 7
  have HH5 : Hid (FM σ8 (w8.setCell ⟨L.sB, 7, none⟩ (.slice a8 (no + 1) q8)) L A va { T with st := a ++ s0, od := T.od ++ (x :: b2).reverse, cp := fun u => if u ∈ x :: b2 then T.sz.length else T.cp u } (onH on (x :: b2)) (.slice (some ⟨gs, 0, none⟩) ns0 qs) vz1 (.slice a8 (no + 1) q8) ∧ Fr XF σ w σ8 (w8.setCell ⟨L.sB, 7, none⟩ (.slice a8 (no + 1) q8))) := hid (by
    obtain ⟨h1, h2⟩ := HHf.out.appO (vo' := .slice a8 (no + 1) q8) hr8.out hf8.out
    refine ⟨?_, (((HH2.out.2.trans HH3.out.2).trans HH4.out.2).trans (Fr.below HN.out.2)).trans h2⟩
    refine (h1.to (T' := { T with st := a ++ s0, od := T.od ++ (x :: b2).reverse, cp := fun u => if u ∈ x :: b2 then T.sz.length else T.cp u }) (fun _ _ => rfl) (fun _ _ => rfl) (fun u _ => ?_) rfl rfl ?_ rfl).congr (fun u _ => ?_)
    · show fup (fun u => if u ∈ b2 then T.sz.length else T.cp u) x id u = if u ∈ x :: b2 then T.sz.length else T.cp u
      by_cases e : u = x
      · subst e; rw [fup_self, if_pos (by simp), Hid'.out]
      · rw [fup_ne _ _ e]
        by_cases e2 : u ∈ b2
        · rw [if_pos e2, if_pos (List.mem_cons_of_mem _ e2)]
        · rw [if_neg e2, if_neg (fun h => (List.mem_cons.1 h).elim e e2)]
    · show (T.od ++ b2.reverse) ++ [x] = T.od ++ (x :: b2).reverse
      rw [List.reverse_cons, List.append_assoc]
    · show fup (onH on b2) x false u = onH on (x :: b2) u
      unfold onH
      by_cases e : u = x
      · subst e; rw [fup_self, if_pos (by simp)]
      · rw [fup_ne _ _ e]
        by_cases e2 : u ∈ b2
        · rw [if_pos e2, if_pos (List.mem_cons_of_mem _ e2)]
        · rw [if_neg e2, if_neg (fun h => (List.mem_cons.1 h).elim e e2)])
  clear hr8 hf8 hrc HHf HN hb8 y7 HH2 HH3 HH4
  go_upto_region 7 with fail
  generalize w8.setCell ⟨L.sB, 7, none⟩ (.slice a8 (no + 1) q8) = w9 at HH5 ⊢
  clear x7 x7f
  by_cases hv : x = v
  rotate_left
  · as_aux_lemma =>
    have dv : ((x : Int) == (v : Int)) = false := by simp; omega
    have HF : Hid (∃ b1 b2, b = b1 ++ b2 ∧ b2.length = j + 1 ∧ FQ σ w L A va (T.half a b1 b2 v) (onH on b2) w9) := hid (by
      obtain ⟨b1', hb1'⟩ : ∃ b1', b1 = b1' ++ [x] ∧ s0 = v :: b1' := by
        have := Hx.out
        cases s0 with
        | nil => simp at this; exact absurd this.1.symm hv
        | cons y s0 =>
          simp at this
          exact ⟨s0, this.2, by rw [this.1]⟩
      refine ⟨b1', x :: b2, by rw [Hb.out, hb1'.1, List.append_assoc]; rfl, by rw [List.length_cons, Hb2.out], σ8, .slice (some ⟨gs, 0, none⟩) ns0 qs, vz1, .slice a8 (no + 1) q8, ?_, HH5.out.2⟩
      refine HH5.out.1.to (T' := T.half a b1' (x :: b2) v) (fun _ _ => rfl) (fun _ _ => rfl) (fun _ _ => rfl) ?_ rfl rfl rfl
      show a ++ s0 = a ++ v :: b1'
      rw [hb1'.2])
    have hj1 : j + 1 < m := by
      obtain ⟨c1, c2, h1, h2, _⟩ := HF.out
      have h3 := Hm.out
      rw [h1, List.length_append] at h3
      omega
    clear hv
    go_wp2
    exact ⟨⟨j + 1, by go_num, hj1, HF⟩, by simp [intOf]; omega⟩
  · as_aux_lemma =>
    have dv : ((x : Int) == (v : Int)) = true := by simp; omega
    have Hcl : Hid (b1 = [] ∧ s0 = []) := hid (by
      have h1 := Hx.out
      have hnn := Hnd.out
      rw [Hs.out, Hb.out] at hnn
      rw [List.nodup_append, List.nodup_cons] at hnn
      cases s0 with
      | nil => simp at h1; exact ⟨h1.2, rfl⟩
      | cons y s0 =>
        exfalso
        simp at h1
        refine hnn.2.1.1 (List.mem_append_left _ ?_)
        rw [h1.2, hv]
        simp)
    obtain ⟨az1, qz1, hvz1⟩ := HH5.out.1.z.shape
    rw [Hid'.out] at hvz1
    subst hvz1
    have z6 : w9.cell? ⟨L.sB, 6, none⟩ = some (.slice az1 id qz1) := HH5.out.1.b.cell 6
    obtain ⟨q2, hq2⟩ : ∃ q, w9.heap.size = q := ⟨_, rfl⟩
    obtain ⟨wg, hwg⟩ : ∃ y, w9.alloc (.cells #[.int .i32 ((j : Int) + 1)] 21) = y := ⟨_, rfl⟩
    have hj1 : (((j + 1 : Nat)) : Int) = (j : Int) + 1 := by omega
    have HN2 := hid (one_new w9 (j + 1) hq2)
    rw [hj1] at HN2
    rw [hwg] at HN2
    have hvx := hv
    clear hv
    go_wp2_with (at_builtin; refine stopHere ?_)
    intro _
    (try simp only [hq2, hwg])
    clear hq2 hwg
    have HHg := hid (HH5.out.1.below HN2.out.2)
    have hrg : RowX rtJ wg σ8 38 (.slice az1 id qz1) T.sz := HHg.out.z
    refine wpList_app_x okJ rfl _ _ hrg rfl [j + 1] rfl (some ⟨q2, 0, none⟩) 1 1 rfl rfl (fun h => by cases h) HN2.out.1 (by rw [Hid'.out]; show (id + 1) * 4 ≤ _; omega) ?_
    intro va9 wa9 σa hra hfa _ _
    obtain ⟨aa, qa, ha⟩ := hra.out.shape
    rw [List.length_append, List.length_singleton, Hid'.out] at ha
    subst ha
    have hb9 := hfa.out.keep HHg.out.b HHg.out.rb rfl
    have x6 : wa9.cell? ⟨L.sB, 6, none⟩ = some (.slice az1 id qz1) := hb9.cell 6
    have x6f : wa9.frozen? ⟨L.sB, 6, none⟩ = false := hb9.frozen 6
    have HF : Hid (FQ σ w L A va (T.close a b v) (onH on (v :: b)) (wa9.setCell ⟨L.sB, 6, none⟩ (.slice aa (id + 1) qa))) := hid (by
      obtain ⟨h1, h2⟩ := HHg.out.appZ (vz' := .slice aa (id + 1) qa) hra.out hfa.out
      have e1 : b2 = b := by rw [Hb.out, Hcl.out.1]; rfl
      rw [e1] at h1
      have e2 := Hb2.out
      rw [e1] at e2
      refine ⟨σa, .slice (some ⟨gs, 0, none⟩) ns0 qs, .slice aa (id + 1) qa, .slice a8 (no + 1) q8, (h1.to (T' := T.close a b v) (fun _ _ => rfl) (fun _ _ => rfl) (fun u _ => ?_) ?_ ?_ ?_ rfl).congr (fun u _ => ?_), (HH5.out.2.trans (Fr.below HN2.out.2)).trans h2⟩
      · show (if u ∈ x :: b then T.sz.length else T.cp u) = if u ∈ v :: b then T.sz.length else T.cp u
        rw [hvx]
      · show a ++ s0 = a
        rw [Hcl.out.2, List.append_nil]
      · show T.sz ++ [j + 1] = T.sz ++ [b.length + 1]
        rw [e2]
      · show T.od ++ (x :: b).reverse = T.od ++ (b.reverse ++ [v])
        rw [List.reverse_cons, hvx]
      · rw [hvx])
    clear hra hfa hrg HHg HN2 hb9 z6 HH5
    go_wp2
    exact bodyPost_end (v := .tuple #[]) (by simp [results, Tryz.results143, go_sem]) rfl ⟨rfl, HF⟩
end
end Go.Proofs.Qxb6500883aGreatDoor
