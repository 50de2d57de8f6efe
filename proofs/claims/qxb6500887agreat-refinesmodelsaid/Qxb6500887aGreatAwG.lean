/- The model's reset (written by tools/mk_awg.py). -/
import Derived.Test.Qxb6500887aGreatAwC
import Derived.Deep.DeepCutAuto
namespace Go.Proofs.Qxb6500887aGreat
open Go.RowKit
set_option linter.unusedSimpArgs false
set_option linter.unusedVariables false
theorem info_md : (Tryz.prog.info? 109).map (·.size) = some 6 := by kernel_rfl
theorem agg_md : AggOf Tryz.prog 109 6 := AggOf.struct Tryz.underlying109 (by kernel_rfl)
def rstE (E : ES) : ES := { E0 with v := (E.v + 1) % 18446744073709551616 }
/-- What a step of the model leaves: perhaps on new ground. -/
def MR (w : World) (l : ML) (E : ES) (w' : World) : Prop := ∃ l' : ML, l'.m = l.m ∧ MM l' E w' ∧ UL l.all w w' ∧ ∀ g ∈ l'.all, g ∈ l.all ∨ w.heap.size ≤ g
theorem MD.mr {w w' : World} {l : ML} {E : ES} (h : MD w l E w') : MR w l E w' := ⟨l, rfl, h.mm, h.u, fun g hg => .inl hg⟩
structure RX (w0 : World) (l l' : ML) (E : ES) (o p : Nat) (w : World) : Prop where
  mm : MM l' E w
  m : l'.m = l.m
  u : UL l.all w0 w
  b : Blk w p 46 (rsC 0 0 0)
  lo : w0.heap.size ≤ p
  hi : ∀ g ∈ l'.all, g ∈ l.all ∨ w0.heap.size ≤ g
  np : ∀ g ∈ l'.all, g ≠ p
section
variable {l l' lf : ML} {E E' : ES} {w w' w0 w3 w4 : World} {o p r g : Nat} {oc rs : List Value}
theorem RX.below (h : RX w0 l l' E o p w) (hb : Below w.heap.size w w') : RX w0 l l' E o p w' := ⟨h.mm.below hb, h.m, h.u.then hb, h.b.below hb, h.lo, h.hi, h.np⟩
theorem RX.done (h : RX w0 l l' E o p w) (hu : Upd p w w') : MR w0 l E w' := by
  refine ⟨l', h.m, h.mm.of (fun g hg hlt => hu.block g hlt (h.np g hg)), ⟨hu.os.trans h.u.os, hu.tape.trans h.u.tape, hu.output.trans h.u.output, Nat.le_trans h.u.size hu.size, fun k hk hn => ?_⟩, h.hi⟩
  have := h.lo
  rw [hu.block k (Nat.lt_of_lt_of_le hk h.u.size) (by omega)]
  exact h.u.block k hk hn
theorem MP.oth (h : MP w0 l E o p oc w) (hu : Upd g w w') (h1 : g ∉ l.all) (h2 : g ≠ o) (h3 : g ≠ p) (h4 : w0.heap.size ≤ g) : MP w0 l E o p oc w' := by
  refine ⟨⟨⟨h.mx.md.mm.of (fun k hk hlt => hu.block k hlt (fun e => h1 (e ▸ hk))), ⟨hu.os.trans h.mx.md.u.os, hu.tape.trans h.mx.md.u.tape, hu.output.trans h.mx.md.u.output, Nat.le_trans h.mx.md.u.size hu.size, fun k hk hn => ?_⟩⟩, h.mx.b.upd hu (Ne.symm h3), h.mx.lo, h.mx.al⟩, h.op.upd hu (Ne.symm h2), h.lp, h.ne⟩
  rw [hu.block k (Nat.lt_of_lt_of_le hk h.mx.md.u.size) (by omega)]
  exact h.mx.md.u.block k hk hn
theorem ML.all_mem {l : ML} {g : Nat} : g ∈ l.all ↔ g = l.m ∨ g = l.w ∨ g = l.c ∨ g = l.k ∨ g = l.g ∨ g = l.t := by simp [ML.all]
set_option maxRecDepth 100000 in
set_option maxHeartbeats 4000000 in
theorem st54 (h : MM l E w) (a b c : Int) (ha : U64 a) (hb : U64 b) (hc : U64 c) : Calls Tryz.prog 14 #[.pointer (some ⟨l.m, 0, none⟩), .agg #[.int .u8 54, .int .u64 a, .int .u64 b, .int .u64 c]] w fun e w' => e = .returned (.agg (rsC 0 0 0).toArray) ∧ Hid (MR w l (rstE E) w') := by
  have I0 := hid info_rs
  have I1 := hid info_md
  have Hvw := hid (ver_wrap E.v)
  have Hvb : Hid ((E.v + 1) % 18446744073709551616 < 18446744073709551616) := hid (Nat.mod_lt _ (by decide))
  unfold rstE
  generalize hv1 : ((E.v + 1) % 18446744073709551616 : Nat) = v1 at Hvw Hvb ⊢
  clear hv1
  have HN := hid (fun wz => modelNewM wz)
  obtain ⟨o, ho⟩ : ∃ o, w.heap.size = o := ⟨_, rfl⟩
  obtain ⟨p, hp⟩ : ∃ p, o + 1 = p := ⟨_, rfl⟩
  have HX : Hid (MP w l E o p [.int .u8 54, .int .u64 a, .int .u64 b, .int .u64 c] ((w.alloc (.cells #[.int .u8 54, .int .u64 a, .int .u64 b, .int .u64 c] 31)).alloc (.cells #[.int .u8 0, .int .u64 0, .int .u64 0, .string { data := #[] }, .int .i64 0, .int .i64 0, .int .i64 0, .int .i64 0, .int .i64 0, .int .i64 0, .int .i64 0, .int .i64 0, .int .i64 0, .int .i64 0, .int .i64 0, .int .i64 0, .int .i64 0, .int .i64 0, .int .i64 0, .int .i64 0, .int .u8 0, .int .i64 0, .int .i64 0, .int .i64 0, .int .i64 0, .int .i64 0, .int .i64 0, .int .i64 0, .int .i64 0, .int .i64 0, .int .i64 0, .int .i64 0, .int .i64 0, .int .i64 0, .int .i64 0] 46))) := hid (MP.start h ho hp)
  clear h
  go_enter Tryz.func14, Tryz.ntmps14
  go_upto_region 1 with fail
  (try simp only [World.size_alloc, ho, hp])
  generalize hw2 : World.alloc (w.alloc _) _ = w2 at HX ⊢
  clear hw2 ho hp
  obtain ⟨o0, o1, o2, o3⟩ := HX.out.cells
  go_wp2_with fail
  refine (HN.out w2).mono ?_
  rintro e w3 ⟨lf, rfl, HF⟩
  have HX3 := hid (HX.out.below HF.out.2.1)
  have Hab : Hid (∀ g ∈ lf.all, w2.heap.size ≤ g) := hid HF.out.2.2
  have Hlt : Hid (∀ g ∈ l.all, g < w2.heap.size) := hid HX.out.mx.md.mm.lts
  have Hop : Hid (o < w2.heap.size ∧ p < w2.heap.size ∧ w.heap.size ≤ w2.heap.size) := hid ⟨HX.out.op.lt, HX.out.mx.b.lt, HX.out.mx.md.u.size⟩
  have HM3 := hid HF.out.1
  clear HF HX HN o0 o1 o2 o3
  obtain ⟨_, _, _, _, _, c5⟩ := HX3.out.mx.md.mm.cells
  obtain ⟨_, _, _, _, _, e5⟩ := HM3.out.cells
  have f5 := HM3.out.m.frozen 5
  have vw := Hvw.out
  have hvb := Hvb.out
  have HM4 := hid ((MD.start HM3.out).ver hvb).mm
  have hu4 : Upd lf.m w3 (w3.setCell ⟨lf.m, 5, none⟩ (.int .u64 (v1 : Int))) := (Upd.refl lf.m w3).setCell rfl _
  have hfm := Hab.out lf.m lf.in_m
  have HX4 := hid (HX3.out.oth hu4 (fun hm => by have := Hlt.out _ hm; omega) (by have := Hop.out; omega) (by have := Hop.out; omega) (by have := Hop.out; omega))
  clear hu4 hfm
  go_upto_region 155 with fail
  generalize hw4 : w3.setCell _ _ = w4 at HM4 HX4 ⊢
  clear hw4 c5 e5 f5 vw HX3 HM3
  have HbF := hid HM4.out.m
  have HbL := hid HX4.out.mx.md.mm.m
  have Hone : Hid (∀ x ∈ mdC lf v1, x.oneCell' = true) := hid (by
    intro x hx
    simp only [mdC, List.mem_cons, List.not_mem_nil, or_false] at hx
    rcases hx with rfl | rfl | rfl | rfl | rfl | rfl <;> rfl)
  obtain ⟨cs, hcs⟩ : ∃ cs, mdC lf v1 = cs := ⟨_, rfl⟩
  have Hlen : Hid (cs.length = 6) := hid (by rw [← hcs]; rfl)
  have HbF2 : Hid (Blk w4 lf.m 109 cs) := hid (by have := HbF.out; rw [show ({ E0 with v := v1 } : ES).v = v1 from rfl, hcs] at this; exact this)
  rw [hcs] at Hone
  have Hcs := hid hcs
  clear hcs HbF
  go_upto_region 156 with (first | (refine wpList_load_blk rfl 109 _ rfl lf.m rfl cs HbF2.out _ Tryz.underlying109 rfl (by rw [Hlen.out]; exact info_md) ?_) | (refine wpList_store_blk rfl 109 _ _ rfl l.m rfl cs rfl HbL.out (by rw [Hlen.out]; rfl) (by rw [Hlen.out]; exact info_md) Hone.out ?_; intro w5 HB5 HU5))
  have HR5 : Hid (RX w l ⟨l.m, lf.w, lf.c, lf.k, lf.g, lf.t⟩ { E0 with v := v1 } o p w5) := hid (by
    have hab := Hab.out
    have hlm := Hlt.out l.m l.in_m
    have hb5 := HB5.out
    rw [← Hcs.out] at hb5
    have n1 := hab lf.w lf.in_w
    have n2 := hab lf.c lf.in_c
    have n3 := hab lf.k lf.in_k
    have n4 := hab lf.g lf.in_g
    have n5 := hab lf.t lf.in_t
    have hop := Hop.out
    refine ⟨⟨hb5, HM4.out.ws.upd HU5.out (by omega), HM4.out.c.upd HU5.out (by omega), HM4.out.k.upd HU5.out (by omega), HM4.out.g.upd HU5.out (by omega), HM4.out.t.upd HU5.out (by omega), HM4.out.wc, HM4.out.kg, HM4.out.wl, HM4.out.cl, HM4.out.tl, HM4.out.vl⟩, rfl, HX4.out.mx.md.u.trans (UL.ofUpd HU5.out l.in_m), HX4.out.mx.b.upd HU5.out (by have := HX4.out.mx.al l.m l.in_m; have := HX4.out.mx.lo; omega), HX4.out.mx.lo, fun g hg => ?_, fun g hg => ?_⟩
    · rcases ML.all_mem.1 hg with rfl | rfl | rfl | rfl | rfl | rfl
      · exact .inl l.in_m
      all_goals exact .inr (by simp only []; omega)
    · have := HX4.out.mx.al l.m l.in_m
      have := HX4.out.mx.lo
      rcases ML.all_mem.1 hg with rfl | rfl | rfl | rfl | rfl | rfl
      all_goals simp only []; omega)
  clear HB5 HU5 HM4 HX4 HbL HbF2 Hone Hab Hlt Hop Hlen Hcs
  go_wp2_with fail
  refine (ansM 0 0 _).mono ?_
  rintro e w6 ⟨rfl, hb6⟩
  have HR6 := hid (HR5.out.below hb6)
  clear hb6 HR5
  go_wp2_with (refine wpList_store_blk rfl 46 _ _ rfl p rfl (rsC 0 0 0) rfl HR6.out.b rfl I0.out (rsC_one _ _ _) ?_; intro w9 HB9 HU9)
  refine bodyPost_ret (results_blk (cs := (rsC 0 0 0)) Tryz.results14 rfl agg_rs HB9.out) rfl ?_
  exact ⟨rfl, hid (HR6.out.done HU9.out)⟩
end
end Go.Proofs.Qxb6500887aGreat
