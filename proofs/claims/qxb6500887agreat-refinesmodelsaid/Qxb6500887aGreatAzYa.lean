/- Audit (written by tools/mk_azya.py). -/
import Derived.Test.Qxb6500887aGreatAzY
namespace Go.Proofs.Qxb6500887aGreat
open Go.RowKit
set_option linter.unusedSimpArgs false
set_option linter.unusedVariables false

section
variable {l : AL} {S : AS} {w w' w0 : World} {p q : Nat} {cs : List Value} {o : Ob} {gs : List (Nat × TypeId × Nat)} {bs : List (Nat × TypeId × List Value)}
/-- A block made and written. -/
theorem RG.newSet {g : Nat} {t : TypeId} {cs ds : List Value} (h : RG l S w0 gs bs w) (hg : w.heap.size = g) (hu : Upd g (w.alloc (.cells cs.toArray t)) w') (hb : Blk w' g t ds) : RG l S w0 gs ((g, t, ds) :: bs) w' := by
  have h1 := h.newF hg t cs
  have hs := h.bel.size
  refine ⟨h.am0, h1.bel.trans (hu.below (by omega) h1.bel.size), fun p hp => ?_, fun p hp => ?_, h.lo, fun p hp q hq => ?_, h.nn⟩
  · exact (h1.ints p hp).upd hu (h1.ne p hp (g, t, cs) (by simp))
  · rcases List.mem_cons.1 hp with rfl | hp
    · exact hb
    · have h2 := (h.fix p hp).lt
      exact (h1.fix p (List.mem_cons_of_mem _ hp)).upd hu (by omega)
  · rcases List.mem_cons.1 hq with rfl | hq
    · exact h1.ne p hp (g, t, cs) (by simp)
    · exact h.ne p hp q hq
theorem RG.drop {x : Nat × TypeId × List Value} (h : RG l S w0 gs (x :: bs) w) : RG l S w0 gs bs w := ⟨h.am0, h.bel, h.ints, fun p hp => h.fix p (List.mem_cons_of_mem _ hp), h.lo, fun p hp q hq => h.ne p hp q (List.mem_cons_of_mem _ hq), h.nn⟩
/-- A closure that answers a truth and keeps I. -/
def OkP (I : World → Prop) (e : Ending) (w : World) : Prop := ∃ ok : Bool, e = .returned (.bool ok) ∧ I w
theorem OkP.mk {I : World → Prop} {e : Ending} {w : World} {b : Bool} (he : e = .returned (.bool b)) (h : I w) : OkP I e w := ⟨b, he, h⟩
theorem ent_ad : FnE 263 := fun args w => by simp [callFunc, Tryz.func263, Tryz.f263]
set_option maxRecDepth 100000 in
set_option maxHeartbeats 8000000 in
theorem audit1Z {ge gr rr bx : Nat} (H0 : Hid (RG l S w0 [(ge, 3, 1), (gr, 36, 5), (rr, 36, 5)] [(bx, 24, [.pointer (some ⟨l.a, 0, none⟩)])] w)) (k : Nat) (v : Int) (hk : k < 16384) : Calls Tryz.prog 263 #[.int .i64 (k : Int), .int .u64 v, .pointer (some ⟨gr, 0, none⟩), .pointer (some ⟨ge, 0, none⟩), .pointer (some ⟨bx, 0, none⟩)] w (OkP fun w' => RG l S w0 [(ge, 3, 1), (gr, 36, 5), (rr, 36, 5)] [(bx, 24, [.pointer (some ⟨l.a, 0, none⟩)])] w') := by
  have I0 := hid info_ob
  have I1 := hid info_ex
  go_enter Tryz.func263, Tryz.ntmps263
  obtain ⟨⟨x_, cx_⟩, zx_⟩ := H0.out.icell (i := 0) (show (gr, 36, 5) ∈ _ by simp) (by decide)
  go_upto_region 2 with fail
  have HP_ := hid (fun y => H0.out.put (show (gr, 36, 5) ∈ _ by simp) 0 y)
  generalize hz_ : World.setCell _ (⟨gr, 0, none⟩ : Addr) _ = w_H1
  have H1 : Hid (RG l S w0 [(ge, 3, 1), (gr, 36, 5), (rr, 36, 5)] [(bx, 24, [.pointer (some ⟨l.a, 0, none⟩)])] w_H1) := hid (by rw [← hz_]; exact HP_.out _)
  clear hz_ HP_ cx_ zx_ H0
  obtain ⟨⟨xe, ce⟩, _⟩ := H1.out.icell (i := 0) (show (ge, 3, 1) ∈ _ by simp) (by decide)
  obtain ⟨b, hb⟩ : ∃ b, decide ((k : Int) * 2 < xe) = b := ⟨_, rfl⟩
  go_upto_if 18 with fail
  clear hb ce
  go_cut [] from 19 to 22 (fun wc => Hid (RG l S w0 [(ge, 3, 1), (gr, 36, 5), (rr, 36, 5)] [(bx, 24, [.pointer (some ⟨l.a, 0, none⟩)])] wc))
  case first =>
    as_aux_lemma =>
    cases b with
    | false =>
      go_wp2
      go_meet
      case rel => exact H1
    | true =>
      obtain ⟨⟨x_, cx_⟩, zx_⟩ := H1.out.icell (i := 2) (show (gr, 36, 5) ∈ _ by simp) (by decide)
      go_wp2
      go_meet
      case rel => exact hid (H1.out.put (show (gr, 36, 5) ∈ _ by simp) 2 _)
  case rest =>
  as_aux_lemma =>
  clear H1
  have H2 := hid hcut.out
  generalize hwc : wc = w2 at H2 ⊢
  clear hwc hcut
  have k2 : w2.cell? ⟨bx, 0, none⟩ = some (.pointer (some ⟨l.a, 0, none⟩)) := (H2.out.fix (bx, 24, [.pointer (some ⟨l.a, 0, none⟩)]) (by simp)).cell 0
  have HO := hid (openGranuleZ H2.out.am k hk)
  have Hlen := hid (opL_len l S k)
  have Hone := hid (opL_one l S k)
  have HOk := hid (fun (hc : opC S k = 0) => (opC_ok hk (H2.out.am.wl _) hc).2.1)
  go_wp2_with fail
  refine HO.out.mono ?_
  rintro e w3 ⟨rfl, hb3⟩
  have H3 := hid (H2.out.below hb3)
  clear hb3 H2 HO k2
  obtain ⟨q, hq⟩ : ∃ q, w3.heap.size = q := ⟨_, rfl⟩
  have HN : Hid (Blk (w3.alloc (.cells #[.pointer none, .int .i64 0, .int .u64 0, .int .i64 0, .int .i64 0] 61)) q 61 ob0) := hid (by
    have kk := Blk.new w3 ob0 61
    rw [hq] at kk
    exact kk)
  (try simp only [hq])
  go_upto_region 5 with (refine wpList_store_blk rfl 61 _ _ rfl q rfl (opL l S k) rfl HN.out (by rw [Hlen.out]; rfl) (by rw [Hlen.out]; exact I0.out) Hone.out ?_; intro w4 HB4 HU4)
  by_cases hc : opC S k = 0
  rotate_left
  · as_aux_lemma =>
    have H4 := hid ((H3.out.newSet (cs := ob0) hq HU4.out HB4.out).drop)
    have dc : (opC S k == 0) = false := by simpa using hc
    have dc2 : (opC S k != 0) = true := by simp [bne, dc]
    generalize opC S k = c at *
    clear hc HB4 HU4 H3 HN hq
    obtain ⟨⟨x_, cx_⟩, zx_⟩ := H4.out.icell (i := 1) (show (gr, 36, 5) ∈ _ by simp) (by decide)
    go_upto_region 7 with fail
    have HP_ := hid (fun y => H4.out.put (show (gr, 36, 5) ∈ _ by simp) 1 y)
    generalize hz_ : World.setCell _ (⟨gr, 1, none⟩ : Addr) _ = w_H5
    have H5 : Hid (RG l S w0 [(ge, 3, 1), (gr, 36, 5), (rr, 36, 5)] [(bx, 24, [.pointer (some ⟨l.a, 0, none⟩)])] w_H5) := hid (by rw [← hz_]; exact HP_.out _)
    clear hz_ HP_ cx_ zx_ H4
    go_wp2
    go_ret
    exact OkP.mk rfl H5.out
  as_aux_lemma =>
  have hob := HOk.out hc
  have e1 : opL l S k = obL l (opO S k) := by unfold opL; rw [if_pos hc]
  rw [e1] at HB4
  rw [hc]
  have H4 : Hid (RG l S w0 [(ge, 3, 1), (gr, 36, 5), (rr, 36, 5)] [(q, 61, obL l (opO S k)), (bx, 24, [.pointer (some ⟨l.a, 0, none⟩)])] w4) := hid (H3.out.newSet (cs := ob0) hq HU4.out HB4.out)
  clear HB4 HU4 H3 HN hq HOk Hlen Hone e1 hc
  have HEx := hid (fun wz (hz : AM l S wz) => obExtentZ hz hob)
  have HHo := hid (fun wz (hz : AM l S wz) => housedZ hz hob)
  have HFs := hid (fun wz (hz : AM l S wz) => fieldsSoundZ hz hob)
  have HEn := hid (fun wz => extEndN (k := (opO S k).k) (n := 1 + (opO S k).sz) (by omega) (by have := hob.k; omega) wz)
  have hkb := hob.k
  generalize hsV S (opO S k) = b1 at *
  obtain ⟨nn, hnn⟩ : ∃ nn, 1 + (opO S k).sz = nn := ⟨_, rfl⟩
  simp only [hnn] at HEx HEn
  have hnb : (opO S k).k + nn ≤ 32768 := by omega
  clear hnn
  clear hob
  generalize hoo : opO S k = o at *
  clear hoo
  have q0 := (H4.out.fix (q, 61, obL l o) (by simp)).cell 0
  have q1 := (H4.out.fix (q, 61, obL l o) (by simp)).cell 1
  have q2 := (H4.out.fix (q, 61, obL l o) (by simp)).cell 2
  have q3 := (H4.out.fix (q, 61, obL l o) (by simp)).cell 3
  have q4 := (H4.out.fix (q, 61, obL l o) (by simp)).cell 4
  simp only [obL, List.getElem?_cons_zero, List.getElem?_cons_succ] at q0 q1 q2 q3 q4
  go_wp2_with fail
  refine (HEx.out _ H4.out.am).mono ?_
  rintro e w5 ⟨rfl, hb5⟩
  have H5 := hid (H4.out.below hb5)
  clear hb5 H4 q0 q1 q2 q3 q4 HEx
  obtain ⟨r, hr⟩ : ∃ r, w5.heap.size = r := ⟨_, rfl⟩
  have H6 : Hid (RG l S w0 [(ge, 3, 1), (gr, 36, 5), (rr, 36, 5)] [(r, 84, [.int .i64 (o.k : Int), .int .i64 (nn : Int)]), (q, 61, obL l o), (bx, 24, [.pointer (some ⟨l.a, 0, none⟩)])] (w5.alloc (.cells #[.int .i64 (o.k : Int), .int .i64 (nn : Int)] 84))) := hid (H5.out.newF hr 84 [.int .i64 (o.k : Int), .int .i64 (nn : Int)])
  go_upto_region 9 with fail
  (try simp only [hr])
  generalize hw6 : w5.alloc _ = w6 at H6 ⊢
  clear hw6 hr H5
  have q0 := (H6.out.fix (q, 61, obL l o) (by simp)).cell 0
  have q1 := (H6.out.fix (q, 61, obL l o) (by simp)).cell 1
  have q2 := (H6.out.fix (q, 61, obL l o) (by simp)).cell 2
  have q3 := (H6.out.fix (q, 61, obL l o) (by simp)).cell 3
  have q4 := (H6.out.fix (q, 61, obL l o) (by simp)).cell 4
  simp only [obL, List.getElem?_cons_zero, List.getElem?_cons_succ] at q0 q1 q2 q3 q4
  obtain ⟨nb, hnb1⟩ : ∃ nb, (!b1) = nb := ⟨_, rfl⟩
  go_wp2_with fail
  refine (HHo.out _ H6.out.am).mono ?_
  rintro e w7 ⟨rfl, hb7⟩
  have H7 := hid (H6.out.below hb7.out)
  clear hb7 H6 q0 q1 q2 q3 q4 HHo
  go_upto_if 39 with fail
  clear hnb1
  go_cut [] from 40 to 43 (fun wc => Hid (RG l S w0 [(ge, 3, 1), (gr, 36, 5), (rr, 36, 5)] [(r, 84, [.int .i64 (o.k : Int), .int .i64 (nn : Int)]), (q, 61, obL l o), (bx, 24, [.pointer (some ⟨l.a, 0, none⟩)])] wc))
  case first =>
    as_aux_lemma =>
    cases nb with
    | false =>
      go_wp2
      go_meet
      case rel => exact H7
    | true =>
      obtain ⟨⟨x_, cx_⟩, zx_⟩ := H7.out.icell (i := 3) (show (gr, 36, 5) ∈ _ by simp) (by decide)
      go_wp2
      go_meet
      case rel => exact hid (H7.out.put (show (gr, 36, 5) ∈ _ by simp) 3 _)
  case rest =>
  as_aux_lemma =>
  clear H7
  have H8 := hid hcut.out
  generalize hwc : wc = w8 at H8 ⊢
  clear hwc hcut
  have q0 := (H8.out.fix (q, 61, obL l o) (by simp)).cell 0
  have q1 := (H8.out.fix (q, 61, obL l o) (by simp)).cell 1
  have q2 := (H8.out.fix (q, 61, obL l o) (by simp)).cell 2
  have q3 := (H8.out.fix (q, 61, obL l o) (by simp)).cell 3
  have q4 := (H8.out.fix (q, 61, obL l o) (by simp)).cell 4
  simp only [obL, List.getElem?_cons_zero, List.getElem?_cons_succ] at q0 q1 q2 q3 q4
  go_wp2_with fail
  refine (HFs.out _ H8.out.am).mono ?_
  rintro e w9 ⟨b2, rfl, hb9⟩
  have H9 := hid (H8.out.below hb9.out)
  clear hb9 H8 q0 q1 q2 q3 q4 HFs
  obtain ⟨nb2, hnb2⟩ : ∃ nb, (!b2) = nb := ⟨_, rfl⟩
  go_upto_if 46 with fail
  clear hnb2
  go_cut [] from 47 to 50 (fun wc => Hid (RG l S w0 [(ge, 3, 1), (gr, 36, 5), (rr, 36, 5)] [(r, 84, [.int .i64 (o.k : Int), .int .i64 (nn : Int)]), (q, 61, obL l o), (bx, 24, [.pointer (some ⟨l.a, 0, none⟩)])] wc))
  case first =>
    as_aux_lemma =>
    cases nb2 with
    | false =>
      go_wp2
      go_meet
      case rel => exact H9
    | true =>
      obtain ⟨⟨x_, cx_⟩, zx_⟩ := H9.out.icell (i := 4) (show (gr, 36, 5) ∈ _ by simp) (by decide)
      go_wp2
      go_meet
      case rel => exact hid (H9.out.put (show (gr, 36, 5) ∈ _ by simp) 4 _)
  case rest =>
  as_aux_lemma =>
  clear H9
  have Ha := hid hcut.out
  generalize hwc : wc = wa at Ha ⊢
  clear hwc hcut
  go_upto_region 13 with fail
  obtain ⟨X, W, HTT, HH0, hne, HCl⟩ := class_below wa
  obtain ⟨⟨xe, ce⟩, ze⟩ := Ha.out.icell (i := 0) (show (ge, 3, 1) ∈ _ by simp) (by decide)
  have y0 : ∀ y, (W y).cell? ⟨r, 0, none⟩ = some (.int .i64 (o.k : Int)) := fun y => ((Ha.out.below (HTT.out y)).fix (r, 84, [.int .i64 (o.k : Int), .int .i64 (nn : Int)]) (by simp)).cell 0
  have y1 : ∀ y, (W y).cell? ⟨r, 1, none⟩ = some (.int .i64 (nn : Int)) := fun y => ((Ha.out.below (HTT.out y)).fix (r, 84, [.int .i64 (o.k : Int), .int .i64 (nn : Int)]) (by simp)).cell 1
  have hlt : ge < wa.heap.size := by
    obtain ⟨_, _, h2⟩ := Ha.out.ints (ge, 3, 1) (by simp)
    exact h2.lt
  have y2 : ∀ y, (W y).cell? ⟨ge, 0, none⟩ = some (.int .i64 xe) := fun y => by
    rw [← ce]
    exact World.cell?_of_block ((HTT.out y).block ge hlt)
  have HEn' := hid (fun y => HEn.out (W y))
  refine wp_region_class W (by kernel_rfl) (by kernel_rfl) HH0.out ?_
  repeat (go_big_quiet_step (first | (go_at_call 44; with_reducible exact Calls.class_of HCl.out (HEn'.out _))))
  refine wpQuiet_nil ?_
  intro y
  have Hb := hid (Ha.out.below (HTT.out y))
  generalize W y = wb at Hb ⊢
  clear y0 y1 y2 HEn' HH0 HTT HCl hne Ha ce ze hlt
  have q5 := (Hb.out.fix (r, 84, [.int .i64 (o.k : Int), .int .i64 (nn : Int)]) (by simp)).cell 0
  have q6 := (Hb.out.fix (r, 84, [.int .i64 (o.k : Int), .int .i64 (nn : Int)]) (by simp)).cell 1
  simp only [List.getElem?_cons_zero, List.getElem?_cons_succ] at q5 q6
  by_cases hlt3 : xe < (o.k : Int) + (nn : Int)
  rotate_left
  · as_aux_lemma =>
    have hb3 : decide (xe < (o.k : Int) + (nn : Int)) = false := decide_eq_false hlt3
    have hb4 : decide ((o.k : Int) + (nn : Int) > xe) = false := decide_eq_false hlt3
    go_wp2
    go_ret
    exact OkP.mk rfl Hb.out.drop.drop
  · as_aux_lemma =>
    have hb3 : decide (xe < (o.k : Int) + (nn : Int)) = true := decide_eq_true hlt3
    have hb4 : decide ((o.k : Int) + (nn : Int) > xe) = true := decide_eq_true hlt3
    go_wp2_with fail
    refine (HEn.out _).mono ?_
    rintro e wd ⟨rfl, hbd⟩
    have Hd := hid (Hb.out.below hbd)
    obtain ⟨⟨x_, cx_⟩, zx_⟩ := Hd.out.icell (i := 0) (show (ge, 3, 1) ∈ _ by simp) (by decide)
    clear hbd Hb q5 q6
    go_wp2
    go_ret
    exact OkP.mk rfl (Hd.out.put (show (ge, 3, 1) ∈ _ by simp) 0 _).drop.drop
end
end Go.Proofs.Qxb6500887aGreat
