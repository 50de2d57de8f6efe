/- Scripts as bytes: Decode, the walk. -/
import Derived.Test.Qxb6500889aDoorMuE3
namespace Go.Proofs.Qxb6500889aDoor
open Go.RowKit
set_option linter.unusedSimpArgs false
set_option linter.unusedVariables false
theorem ars_snoc (i : Nat) : ∀ l : List Nat, ars (i + 1) l = ((ars i l).1 ++ [(ar (ars i l).2).1], (ar (ars i l).2).2) := by
  induction i with
  | zero => intro l; rfl
  | succ i ih =>
    intro l
    rw [ars, ih (ar l).2]
    rfl
/-- The array of arguments. -/
def agC (p : List Nat) : List Value := [.int .u64 (p.getD 0 0 : Int), .int .u64 (p.getD 1 0 : Int), .int .u64 (p.getD 2 0 : Int)]
theorem agC_snoc {p : List Nat} {i : Nat} (h : p.length = i) (hi : i < 3) (x : Nat) : (agC p).set i (.int .u64 (x : Int)) = agC (p ++ [x]) := by
  match p, h with
  | [], h => subst h; rfl
  | [y], h => subst h; rfl
  | [y, z], h => subst h; rfl
  | y :: z :: u :: r, h => simp at h; omega
theorem own_monoS {w : World} {base base' : Nat} {t : TypeId} {sz : Nat} {v : Value} {n : Nat} {cs : List Value} (h : w.ownsRow base t sz v n cs) (hb : base' ≤ base) : w.ownsRow base' t sz v n cs := by
  refine ⟨h.1, ?_⟩
  rcases h.2 with h0 | ⟨g', cap, cur, e1, e2, r⟩
  · exact .inl h0
  · exact .inr ⟨g', cap, cur, e1, Nat.le_trans hb e2, r⟩
def rdAt (w : World) (rB : Nat) : Nat := match w.cell? ⟨rB, 1, none⟩ with | some (.int _ k) => k.toNat | _ => 0
theorem rdAt_of {w0 w : World} {rB : Nat} {a : Option Addr} {n c : Nat} {l : List Nat} {k : Nat} (h : RB w0 w rB a n c l k) : rdAt w rB = k := by
  unfold rdAt
  rw [show w.cell? ⟨rB, 1, none⟩ = some (.int .i64 (k : Int)) from h.blk.cell 1]
  simp
theorem info_rd : (Tryd.prog.info? 95).map (·.size) = some 2 := by kernel_rfl
theorem info_a3 : (Tryd.prog.info? 98).map (·.size) = some 3 := by kernel_rfl
section
variable {w : World} {a : Option Addr} {n c : Nat} {l : List Nat}
/-- What Decode has done. -/
structure DcP (w w' : World) (v : Value) (s : List OpP) : Prop where
  bel : Below w.heap.size w w'
  own : w'.ownsRow w.heap.size 31 5 v s.length (s.flatMap opC)
set_option maxRecDepth 1000000 in
set_option maxHeartbeats 8000000 in
theorem decode_walk (hr : Rd w a n c l) (hg : ArG w) : Calls Tryd.prog 15 #[.slice a n c] w fun e w' => ∃ v, e = .returned v ∧ DcP w w' v (dec l) := by
  have HR := hid hr
  have HG := hid hg
  have hn := hr.bnd
  have Ir : Hid ((Tryd.prog.info? 95).map (·.size) = some 2) := hid info_rd
  have Io : Hid ((Tryd.prog.info? 31).map (·.size) = some 5) := hid info_op
  have Ia : Hid ((Tryd.prog.info? 98).map (·.size) = some 3) := hid info_a3
  obtain ⟨rB, hrB⟩ : ∃ x, w.heap.size = x := ⟨_, rfl⟩
  obtain ⟨w1, hw1⟩ : ∃ x, w.alloc (.cells #[.slice none 0 0, .int .i64 0] 95) = x := ⟨_, rfl⟩
  have HB1 : Hid (Blk w1 rB 95 [.slice none 0 0, .int .i64 0] ∧ Below w.heap.size w w1 ∧ w1.heap.size = rB + 1) := hid (by
    rw [← hw1, ← hrB]
    exact ⟨Blk.new w _ _, nbel _ _, by show (Array.push _ _).size = _; exact Array.size_push _⟩)
  have Hrb : Hid (w.heap.size = rB) := hid hrB
  clear hr hg
  go_enter Tryd.func15, Tryd.ntmps15
  go_upto_region 3 with (refine wpList_store_blk rfl 95 _ _ rfl rB rfl [.slice a n c, .int .i64 0] rfl HB1.out.1 rfl Ir.out (by intro u hu; simp at hu; rcases hu with rfl | rfl <;> rfl) ?_; intro w2 HBs HUs)
  have HD0 : Hid (DR w w2 rB a n c l (rB + 1) (.slice none 0 0) [] 0 []) := hid (by
    have h1 := HUs.out
    have hb2 := HB1.out.2.1
    exact ⟨⟨HR.out, hb2.trans (h1.below (by rw [Hrb.out]; exact Nat.le_refl _) hb2.size), by rw [Hrb.out]; exact Nat.le_refl _, HBs.out, Nat.zero_le _⟩, ⟨rfl, .inl ⟨rfl, rfl⟩⟩, Nat.lt_succ_self _, by rw [← HB1.out.2.2]; exact h1.size, fun x hx => (by cases hx), List.nodup_nil⟩)
  clear HB1 HBs HUs hw1 hrB
  go_frame
  go_wp2_with fail
  go_loopw [3] (fun v wr => Hid (∃ done k, DR w wr rB a n c l (rB + 1) v done k [] ∧ dec l = done ++ dec (l.drop k))) (fun _ wr => n - rdAt wr rB)
  case atStart => exact hid ⟨[], 0, HD0.out, rfl⟩
  case round =>
  clear HD0
  obtain ⟨done, k, hD, hdec⟩ := hrel.out
  have HD := hid hD
  have Hdec := hid hdec
  have HM := hid (more_walk hD.rb)
  have Hat : Hid (rdAt wr rB = k) := hid (rdAt_of hD.rb)
  have hkn0 := hD.rb.hk
  clear hD hdec hrel
  by_cases hkn : k < n
  rotate_left
  · as_aux_lemma =>
    rw [decide_eq_false hkn] at HM
    have hs : l.drop k = [] := List.drop_eq_nil_of_le (by rw [HR.out.len]; omega)
    have e : done = dec l := by rw [Hdec.out, hs, dec_nil, List.append_nil]
    have HF : Hid (∀ wy, Drew wr wy → DcP w wy u3 (dec l)) := hid (fun wy hy => by
      have hD2 := HD.out.drew hy
      rw [← e]
      exact ⟨hD2.rb.bel, own_monoS hD2.own (by rw [Hrb.out]; omega)⟩)
    clear hs e
    go_wp2_with fail
    refine HM.out.mono ?_
    rintro e w3 ⟨rfl, hd3⟩
    have HF2 := hid (HF.out w3 hd3)
    clear hd3 HF HM
    go_wp2
    go_ret
    exact ⟨_, rfl, HF2.out⟩
  rw [decide_eq_true hkn] at HM
  obtain ⟨s, hs⟩ : ∃ s, l.drop k = s := ⟨_, rfl⟩
  have hsn : s ≠ [] := fun e => by
    rw [e] at hs
    have := List.drop_eq_nil_iff.1 hs
    rw [HR.out.len] at this
    omega
  have Hdec2 : Hid (dec l = done ++ (dst s).1 :: dec (dst s).2) := hid (by rw [Hdec.out, hs, dec_cons hsn])
  have Hless : Hid ((dst s).2.length < n - k) := hid (by have := (dst_len s hsn).1; rw [← hs, List.length_drop, HR.out.len] at this; rw [← hs]; exact this)
  have Hlen : Hid (done.length ≤ 1000000000000) := hid (by
    have h1 := (dec_len _ l rfl).1
    rw [Hdec.out, List.length_append, HR.out.len] at h1
    omega)
  have hby : By s := by rw [← hs]; exact Below.by HR.out.byt k
  obtain ⟨b0, hb0⟩ : ∃ x, (nx s).1 = x := ⟨_, rfl⟩
  obtain ⟨t0, ht0⟩ : ∃ x, (nx s).2 = x := ⟨_, rfl⟩
  obtain ⟨ac, hac⟩ : ∃ x, b0 % 7 = x := ⟨_, rfl⟩
  have hb0l : b0 < 256 := by rw [← hb0]; exact (nx_by hby).1
  have ta : (b0 : Int).tmod 7 = (ac : Int) := by rw [Int.tmod_eq_emod_of_nonneg (by omega), ← hac]; omega
  have Hby : Hid (By t0) := hid (by rw [← ht0]; exact (nx_by hby).2)
  have Hdst : Hid (dst s = if ac < 4 then (opOf ac ((nx t0).1 % 9) (ars (ari ((nx t0).1 % 9)) (nx t0).2).1, (ars (ari ((nx t0).1 % 9)) (nx t0).2).2) else (⟨ac, 0, 0, 0, 0⟩, t0)) := hid (by unfold dst; rw [hb0, ht0, hac])
  have iac : (ac : Int) < 7 := by omega
  have hac7 : ac < 7 := by omega
  have HNx : Hid (∀ wy, DR w wy rB a n c l (rB + 1) u3 done k [] → Calls Tryd.prog 30 #[.pointer (some ⟨rB, 0, none⟩)] wy fun e w' => e = .returned (.int .u8 (b0 : Int)) ∧ ∃ k', DR w w' rB a n c l (rB + 1) u3 done k' [] ∧ l.drop k' = t0) := hid (fun wy hy => by
    have := next_walk hy.rb
    rw [hs, hb0, ht0] at this
    exact this.mono (fun e w' ⟨q1, q2⟩ => ⟨q1, hy.read q2⟩))
  clear hs hsn hby hb0 ht0 hac hb0l Hdec
  go_wp2_with fail
  refine HM.out.mono ?_
  rintro e w3 ⟨rfl, hd3⟩
  have HD3 := hid (HD.out.drew hd3)
  clear hd3 HM HD
  go_wp2_with fail
  refine (HNx.out _ HD3.out).mono ?_
  rintro e w4 ⟨rfl, k4, hD4, hk4⟩
  have HD4 := hid hD4
  have Hk4 := hid hk4
  obtain ⟨ob, hob⟩ : ∃ x, w4.heap.size = x := ⟨_, rfl⟩
  obtain ⟨w5, hw5⟩ : ∃ x, w4.alloc (.cells #[.int .u8 0, .int .u8 0, .int .u64 0, .int .u64 0, .int .u64 0] 31) = x := ⟨_, rfl⟩
  have HD5 : Hid (DR w w5 rB a n c l (rB + 1) u3 done k4 [(ob, 31, opC ⟨0, 0, 0, 0, 0⟩)]) := hid (by
    have := hD4.alloc (opC ⟨0, 0, 0, 0, 0⟩) 31
    rw [hob, show w4.alloc (.cells (opC ⟨0, 0, 0, 0, 0⟩).toArray 31) = w5 from hw5] at this
    exact this)
  clear hD4 hk4 HD3 HNx HD4
  go_upto_region 5 with (refine wpList_store_blk rfl 31 _ _ rfl ob rfl (opC ⟨ac, 0, 0, 0, 0⟩) rfl (HD5.out.bl (ob, 31, opC ⟨0, 0, 0, 0, 0⟩) (by simp)).1 rfl Io.out (op_one _) ?_; intro w6 HBs HUs)
  have HD6 : Hid (DR w w6 rB a n c l (rB + 1) u3 done k4 [(ob, 31, opC ⟨ac, 0, 0, 0, 0⟩)]) := hid (HD5.out.set (i := 0) rfl HBs.out HUs.out)
  clear HD5 HBs HUs hw5 hob ta
  go_frame
  have c0 : w6.cell? ⟨ob, 0, none⟩ = some (.int .u8 (ac : Int)) := (HD6.out.bl (ob, 31, opC ⟨ac, 0, 0, 0, 0⟩) (by simp)).1.cell 0
  go_upto_if 16 with fail
  clear c0
  go_cut [6, 7] from 10 to 40 (fun v6 v7 wc => Hid (∃ k', DR w wc rB a n c l (rB + 1) u3 done k' [(ob, 31, opC (dst s).1)] ∧ l.drop k' = (dst s).2))
  case first =>
    as_aux_lemma =>
    by_cases h4 : ac < 4
    rotate_left
    · have d4 : decide ((ac : Int) < 4) = false := decide_eq_false (by omega)
      have HF : Hid (∃ k', DR w w6 rB a n c l (rB + 1) u3 done k' [(ob, 31, opC (dst s).1)] ∧ l.drop k' = (dst s).2) := hid ⟨k4, by rw [Hdst.out, if_neg h4]; exact HD6.out, by rw [Hdst.out, if_neg h4]; exact Hk4.out⟩
      clear HD6 Hk4
      go_wp2_with fail
      go_meet
      exact HF
    have d4 : decide ((ac : Int) < 4) = true := decide_eq_true (by omega)
    have HNx : Hid (Calls Tryd.prog 30 #[.pointer (some ⟨rB, 0, none⟩)] w6 fun e w' => e = .returned (.int .u8 ((nx t0).1 : Int)) ∧ ∃ k', DR w w' rB a n c l (rB + 1) u3 done k' [(ob, 31, opC ⟨ac, 0, 0, 0, 0⟩)] ∧ l.drop k' = (nx t0).2) := hid (by
      have := next_walk HD6.out.rb
      rw [Hk4.out] at this
      exact this.mono (fun e w' ⟨q1, q2⟩ => ⟨q1, HD6.out.read q2⟩))
    rw [if_pos h4] at Hdst
    obtain ⟨b1, hb1⟩ : ∃ x, (nx t0).1 = x := ⟨_, rfl⟩
    obtain ⟨t1, ht1⟩ : ∃ x, (nx t0).2 = x := ⟨_, rfl⟩
    obtain ⟨kd, hkd⟩ : ∃ x, b1 % 9 = x := ⟨_, rfl⟩
    have hb1l : b1 < 256 := by rw [← hb1]; exact (nx_by Hby.out).1
    have tk : (b1 : Int).tmod 9 = (kd : Int) := by rw [Int.tmod_eq_emod_of_nonneg (by omega), ← hkd]; omega
    have Hby1 : Hid (By t1) := hid (by rw [← ht1]; exact (nx_by Hby.out).2)
    have hk9 : kd < 9 := by omega
    have ik9 : (kd : Int) < 9 := by omega
    rw [hb1, ht1] at HNx
    rw [hb1, ht1, hkd] at Hdst
    clear hb1 ht1 hkd hb1l HD6 Hk4
    go_wp2_with fail
    refine HNx.out.mono ?_
    rintro e w7 ⟨rfl, k7, hD7, hk7⟩
    have HD7 := hid hD7
    have Hk7 := hid hk7
    have c1 : w7.cell? ⟨ob, 1, none⟩ = some (.int .u8 0) := (hD7.bl (ob, 31, opC ⟨ac, 0, 0, 0, 0⟩) (by simp)).1.cell 1
    have f1 : w7.frozen? ⟨ob, 1, none⟩ = false := (hD7.bl (ob, 31, opC ⟨ac, 0, 0, 0, 0⟩) (by simp)).1.frozen 1
    clear hD7 hk7 HNx
    go_upto_region 7 with fail
    obtain ⟨w8, hw8⟩ : ∃ x, w7.setCell ⟨ob, 1, none⟩ (.int .u8 (kd : Int)) = x := ⟨_, rfl⟩
    have HD8 : Hid (DR w w8 rB a n c l (rB + 1) u3 done k7 [(ob, 31, opC ⟨ac, kd, 0, 0, 0⟩)]) := hid (by
      rw [← hw8]
      exact HD7.out.set (i := 0) rfl ((HD7.out.bl (ob, 31, opC ⟨ac, 0, 0, 0, 0⟩) (by simp)).1.set 1 _) ((Upd.refl ob w7).setCell rfl _))
    simp only [hw8]
    clear hw8 HD7 c1 f1 tk
    obtain ⟨gB, hgB⟩ : ∃ x, w8.heap.size = x := ⟨_, rfl⟩
    obtain ⟨w9, hw9⟩ : ∃ x, w8.alloc (.cells #[.int .u64 0, .int .u64 0, .int .u64 0] 98) = x := ⟨_, rfl⟩
    have HD9 : Hid (DR w w9 rB a n c l (rB + 1) u3 done k7 [(gB, 98, agC []), (ob, 31, opC ⟨ac, kd, 0, 0, 0⟩)]) := hid (by
      have := HD8.out.alloc (agC []) 98
      rw [hgB, show w8.alloc (.cells (agC []).toArray 98) = w9 from hw9] at this
      exact this)
    clear HD8
    go_upto_region 8 with (refine wpList_store_blk rfl 98 _ _ rfl gB rfl (agC []) rfl (HD9.out.bl (gB, 98, agC []) (by simp)).1 rfl Ia.out (by intro u hu; simp [agC] at hu; subst hu; rfl) ?_; intro w10 HBs HUs)
    have HD10 : Hid (DR w w10 rB a n c l (rB + 1) u3 done k7 [(gB, 98, agC []), (ob, 31, opC ⟨ac, kd, 0, 0, 0⟩)]) := hid (HD9.out.set (i := 0) rfl HBs.out HUs.out)
    clear HD9 HBs HUs hw9 hgB
    go_frame
    go_wp2_with fail
    go_loopw [7] (fun v wr => ∃ i : Nat, i ≤ ari kd ∧ v = .int .i64 (i : Int) ∧ Hid (∃ k', DR w wr rB a n c l (rB + 1) u3 done k' [(gB, 98, agC (ars i t1).1), (ob, 31, opC ⟨ac, kd, 0, 0, 0⟩)] ∧ l.drop k' = (ars i t1).2)) (fun v _ => ari kd - (intOf v).toNat)
    case atStart => exact ⟨0, Nat.zero_le _, rfl, hid ⟨k7, HD10.out, Hk7.out⟩⟩
    case round =>
    clear HD10 Hk7
    obtain ⟨i, hi, rfl, HI⟩ := hrel
    obtain ⟨k', hDi, hki⟩ := HI.out
    have HDi := hid hDi
    have Hki := hid hki
    have cg := (HG.out.below hDi.rb.bel).c kd hk9
    have ck : wr.cell? ⟨ob, 1, none⟩ = some (.int .u8 (kd : Int)) := (hDi.bl (ob, 31, opC ⟨ac, kd, 0, 0, 0⟩) (by simp)).1.cell 1
    have har := ari_le kd
    obtain ⟨ai, hai⟩ : ∃ x, ari kd = x := ⟨_, rfl⟩
    rw [hai] at hi har cg Hdst
    have Hlp : Hid ((ars i t1).1.length = i) := hid (ars_by i Hby1.out).2.2
    clear hDi hki HI
    by_cases hia : i < ai
    · have da : decide ((i : Int) < (ai : Int)) = true := decide_eq_true (by omega)
      have da2 : decide (i < ai) = true := decide_eq_true hia
      have i3 : (i : Int) < 3 := by omega
      have hi3 : i < 3 := by omega
      have HAr := hid (argument_walk HDi.out.rb)
      rw [Hki.out] at HAr
      have Hsn : Hid (ars (i + 1) t1 = ((ars i t1).1 ++ [(ar (ars i t1).2).1], (ar (ars i t1).2).2)) := hid (ars_snoc i t1)
      obtain ⟨x, hx⟩ : ∃ x, (ar (ars i t1).2).1 = x := ⟨_, rfl⟩
      rw [hx] at HAr Hsn
      rw [hai]
      clear hai
      go_wp2_with fail
      refine HAr.out.mono ?_
      rintro e w11 ⟨rfl, hr11⟩
      obtain ⟨k11, hD11, hk11⟩ := HDi.out.read hr11
      have HD11 := hid hD11
      have Hk11 := hid hk11
      have c1 : ∃ u, w11.cell? ⟨gB, i, none⟩ = some u := by
        rw [(hD11.bl (gB, 98, agC (ars i t1).1) (by simp)).1.cell i]
        exact ⟨_, List.getElem?_eq_getElem (by show i < 3; exact hi3)⟩
      obtain ⟨u, c1⟩ := c1
      have f1 : w11.frozen? ⟨gB, i, none⟩ = false := (hD11.bl (gB, 98, agC (ars i t1).1) (by simp)).1.frozen i
      have HF : Hid (∃ k', DR w (w11.setCell ⟨gB, i, none⟩ (.int .u64 (x : Int))) rB a n c l (rB + 1) u3 done k' [(gB, 98, agC (ars (i + 1) t1).1), (ob, 31, opC ⟨ac, kd, 0, 0, 0⟩)] ∧ l.drop k' = (ars (i + 1) t1).2) := hid ⟨k11, by
        have := hD11.set (i := 0) rfl ((hD11.bl (gB, 98, agC (ars i t1).1) (by simp)).1.set i (.int .u64 (x : Int))) ((Upd.refl gB w11).setCell (p := ⟨gB, i, none⟩) rfl (.int .u64 (x : Int)))
        rw [agC_snoc Hlp.out hi3 x] at this
        rw [Hsn.out]
        exact this, by rw [Hsn.out]; exact hk11⟩
      clear hr11 hD11 hk11 HD11 Hk11 HDi Hki HAr ck cg
      go_wp2
      exact ⟨⟨i + 1, by omega, by go_num, HF⟩, by simp [intOf]; omega⟩
    · have da : decide ((i : Int) < (ai : Int)) = false := decide_eq_false (by omega)
      have da2 : decide (i < ai) = false := decide_eq_false hia
      have e : i = ai := by omega
      subst e
      clear hai
      obtain ⟨p, hp⟩ : ∃ p, (ars i t1).1 = p := ⟨_, rfl⟩
      rw [hp] at HDi Hdst
      obtain ⟨p0, hp0⟩ : ∃ x, p.getD 0 0 = x := ⟨_, rfl⟩
      obtain ⟨p1, hp1⟩ : ∃ x, p.getD 1 0 = x := ⟨_, rfl⟩
      obtain ⟨p2, hp2⟩ : ∃ x, p.getD 2 0 = x := ⟨_, rfl⟩
      have Hq : Hid (dst s = (⟨ac, kd, p0, p1, p2⟩, (ars i t1).2)) := hid (by rw [Hdst.out]; unfold opOf; rw [hp0, hp1, hp2])
      unfold agC at HDi
      rw [hp0, hp1, hp2] at HDi
      clear hp hp0 hp1 hp2 Hdst
      go_upto_region 12 with fail
      refine wp_region_tree (fun wy => Blk wy gB 98 [.int .u64 (p0 : Int), .int .u64 (p1 : Int), .int .u64 (p2 : Int)]) 12 [0, 1, 2, 3, 4, 5, 6] (.one 7 (.lit [8] (.one 9 (.lit [10] (.one 11 .leaf))))) rfl (by kernel_rfl) (by kernel_rfl) (fun d _ _ _ _ h => by cases d <;> exact h) ((HDi.out.bl (gB, 98, [.int .u64 (p0 : Int), .int .u64 (p1 : Int), .int .u64 (p2 : Int)]) (by simp)).1.drew ⟨1, rfl⟩) ?_
      apply Exists.intro
      refine ⟨?_, ?_⟩
      · intro W hW
        have s0 : ∀ x, (W x).cell? ⟨gB, 0, none⟩ = some (.int .u64 (p0 : Int)) := fun x => (hW x).cell 0
        have s1 : ∀ x, (W x).cell? ⟨gB, 1, none⟩ = some (.int .u64 (p1 : Int)) := fun x => (hW x).cell 1
        have s2 : ∀ x, (W x).cell? ⟨gB, 2, none⟩ = some (.int .u64 (p2 : Int)) := fun x => (hW x).cell 2
        clear hW
        simp only [List.take, opsAt, List.drop, List.cons_append, List.nil_append]
        repeat (go_big_quiet_step (fail))
        exact rfl
      have Hx0 : Hid (DR w wr.drew rB a n c l (rB + 1) u3 done k' [(gB, 98, [.int .u64 (p0 : Int), .int .u64 (p1 : Int), .int .u64 (p2 : Int)]), (ob, 31, opC ⟨ac, kd, 0, 0, 0⟩)]) := hid (HDi.out.drew ⟨1, rfl⟩)
      generalize wr.drew = x0 at Hx0 ⊢
      clear HDi
      simp only [wpTr, opsAt, List.take, List.drop, List.cons_append, List.nil_append]
      have c1 : x0.cell? ⟨ob, 2, none⟩ = some (.int .u64 0) := (Hx0.out.bl (ob, 31, opC ⟨ac, kd, 0, 0, 0⟩) (by simp)).1.cell 2
      have f1 : x0.frozen? ⟨ob, 2, none⟩ = false := (Hx0.out.bl (ob, 31, opC ⟨ac, kd, 0, 0, 0⟩) (by simp)).1.frozen 2
      go_wp2_with fail
      obtain ⟨x1, hx1⟩ : ∃ x, x0.setCell ⟨ob, 2, none⟩ (.int .u64 (p0 : Int)) = x := ⟨_, rfl⟩
      have Hx1 : Hid (DR w x1 rB a n c l (rB + 1) u3 done k' [(gB, 98, [.int .u64 (p0 : Int), .int .u64 (p1 : Int), .int .u64 (p2 : Int)]), (ob, 31, opC ⟨ac, kd, p0, 0, 0⟩)]) := hid (by
        rw [← hx1]
        exact Hx0.out.set (i := 1) rfl ((Hx0.out.bl (ob, 31, opC ⟨ac, kd, 0, 0, 0⟩) (by simp)).1.set 2 _) ((Upd.refl ob x0).setCell rfl _))
      simp only [hx1]
      clear hx1 c1 f1 Hx0
      refine ⟨(Hx1.out.bl (gB, 98, [.int .u64 (p0 : Int), .int .u64 (p1 : Int), .int .u64 (p2 : Int)]) (by simp)).1, ?_⟩
      apply Exists.intro
      refine ⟨?_, ?_⟩
      · intro W hW
        clear hW
        repeat (go_big_quiet_step (fail))
        exact rfl
      have c2 : x1.cell? ⟨ob, 3, none⟩ = some (.int .u64 0) := (Hx1.out.bl (ob, 31, opC ⟨ac, kd, p0, 0, 0⟩) (by simp)).1.cell 3
      have f2 : x1.frozen? ⟨ob, 3, none⟩ = false := (Hx1.out.bl (ob, 31, opC ⟨ac, kd, p0, 0, 0⟩) (by simp)).1.frozen 3
      go_wp2_with fail
      obtain ⟨x2, hx2⟩ : ∃ x, x1.setCell ⟨ob, 3, none⟩ (.int .u64 (p1 : Int)) = x := ⟨_, rfl⟩
      have Hx2 : Hid (DR w x2 rB a n c l (rB + 1) u3 done k' [(gB, 98, [.int .u64 (p0 : Int), .int .u64 (p1 : Int), .int .u64 (p2 : Int)]), (ob, 31, opC ⟨ac, kd, p0, p1, 0⟩)]) := hid (by
        rw [← hx2]
        exact Hx1.out.set (i := 1) rfl ((Hx1.out.bl (ob, 31, opC ⟨ac, kd, p0, 0, 0⟩) (by simp)).1.set 3 _) ((Upd.refl ob x1).setCell rfl _))
      simp only [hx2]
      clear hx2 c2 f2 Hx1
      refine ⟨(Hx2.out.bl (gB, 98, [.int .u64 (p0 : Int), .int .u64 (p1 : Int), .int .u64 (p2 : Int)]) (by simp)).1, ?_⟩
      apply Exists.intro
      refine ⟨?_, ?_⟩
      · intro W hW
        clear hW
        repeat (go_big_quiet_step (fail))
        exact rfl
      have c3 : x2.cell? ⟨ob, 4, none⟩ = some (.int .u64 0) := (Hx2.out.bl (ob, 31, opC ⟨ac, kd, p0, p1, 0⟩) (by simp)).1.cell 4
      have f3 : x2.frozen? ⟨ob, 4, none⟩ = false := (Hx2.out.bl (ob, 31, opC ⟨ac, kd, p0, p1, 0⟩) (by simp)).1.frozen 4
      go_wp2_with fail
      obtain ⟨x3, hx3⟩ : ∃ x, x2.setCell ⟨ob, 4, none⟩ (.int .u64 (p2 : Int)) = x := ⟨_, rfl⟩
      have Hx3 : Hid (DR w x3 rB a n c l (rB + 1) u3 done k' [(gB, 98, [.int .u64 (p0 : Int), .int .u64 (p1 : Int), .int .u64 (p2 : Int)]), (ob, 31, opC ⟨ac, kd, p0, p1, p2⟩)]) := hid (by
        rw [← hx3]
        exact Hx2.out.set (i := 1) rfl ((Hx2.out.bl (ob, 31, opC ⟨ac, kd, p0, p1, 0⟩) (by simp)).1.set 4 _) ((Upd.refl ob x2).setCell rfl _))
      simp only [hx3]
      clear hx3 c3 f3 Hx2
      refine ⟨(Hx3.out.bl (gB, 98, [.int .u64 (p0 : Int), .int .u64 (p1 : Int), .int .u64 (p2 : Int)]) (by simp)).1, ?_⟩
      simp only [wpTr, QN]
      have HF : Hid (∃ k', DR w x3 rB a n c l (rB + 1) u3 done k' [(ob, 31, opC (dst s).1)] ∧ l.drop k' = (dst s).2) := hid ⟨k', by
        rw [Hq.out]
        have h1 := Hx3.out
        exact ⟨h1.rb, h1.own, h1.lo, h1.hb, fun x hx => h1.bl x (List.mem_cons_of_mem _ hx), (List.nodup_cons.1 h1.nd).2⟩, by rw [Hq.out]; exact Hki.out⟩
      clear Hx3
      go_wp2_with fail
      go_meet
      exact HF
  case rest =>
  obtain ⟨k5, hD5, hk5⟩ := hcut.out
  have HD5 := hid hD5
  have HF : Hid (∀ v' wy, DR w wy rB a n c l (rB + 1) v' (done ++ [(dst s).1]) k5 [] → (∃ done k, DR w wy rB a n c l (rB + 1) v' done k [] ∧ dec l = done ++ dec (l.drop k)) ∧ n - rdAt wy rB < n - rdAt wr rB) := hid (fun v' wy hy => by
    refine ⟨⟨_, k5, hy, by rw [Hdec2.out, hk5]; simp⟩, ?_⟩
    rw [rdAt_of hy.rb, Hat.out]
    have h1 := Hless.out
    rw [← hk5, List.length_drop, HR.out.len] at h1
    have := hy.rb.hk
    omega)
  obtain ⟨o, ho⟩ : ∃ o, (dst s).1 = o := ⟨_, rfl⟩
  rw [ho] at HF HD5
  clear hD5 hk5 hcut ho Hdec2 Hless Hdst Hby HD6 Hk4 Hat
  obtain ⟨sg, hsg⟩ : ∃ x, wc.heap.size = x := ⟨_, rfl⟩
  obtain ⟨wv, hwv⟩ : ∃ x, wc.alloc (.cells (opC o).toArray 31) = x := ⟨_, rfl⟩
  have hwv' : wc.alloc (.cells #[.int .u8 (o.ac : Int), .int .u8 (o.k : Int), .int .u64 (o.a : Int), .int .u64 (o.b : Int), .int .u64 (o.c : Int)] 31) = wv := hwv
  have HDv : Hid (DR w wv rB a n c l (rB + 1) u3 done k5 [(sg, 31, opC o), (ob, 31, opC o)]) := hid (by
    have := HD5.out.alloc (opC o) 31
    rw [hsg, hwv] at this
    exact this)
  have q0 : wc.cell? ⟨ob, 0, none⟩ = some (.int .u8 (o.ac : Int)) := (HD5.out.bl (ob, 31, opC o) (by simp)).1.cell 0
  have q1 : wc.cell? ⟨ob, 1, none⟩ = some (.int .u8 (o.k : Int)) := (HD5.out.bl (ob, 31, opC o) (by simp)).1.cell 1
  have q2 : wc.cell? ⟨ob, 2, none⟩ = some (.int .u64 (o.a : Int)) := (HD5.out.bl (ob, 31, opC o) (by simp)).1.cell 2
  have q3 : wc.cell? ⟨ob, 3, none⟩ = some (.int .u64 (o.b : Int)) := (HD5.out.bl (ob, 31, opC o) (by simp)).1.cell 3
  have q4 : wc.cell? ⟨ob, 4, none⟩ = some (.int .u64 (o.c : Int)) := (HD5.out.bl (ob, 31, opC o) (by simp)).1.cell 4
  clear hwv HD5
  go_wp2_with (at_builtin; refine wpList_app_dr rfl (.tmp 41) (.tmp 43) rfl rfl HDv.out o Hlen.out sg rfl (HDv.out.bl (sg, 31, opC o) (by simp)).1 ?_; intro v9 w9 hp9; have HP9 := hid hp9; clear hp9)
  obtain ⟨hF1, hF2⟩ := HF.out v9 w9 HP9.out
  have HF1 := hid hF1
  have HF2 := hid hF2
  clear hF1 hF2 HF HDv HP9 hwv' hsg q0 q1 q2 q3 q4
  go_wp2
  exact ⟨HF1, HF2.out⟩
end
end Go.Proofs.Qxb6500889aDoor
