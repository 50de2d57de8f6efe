/- The law WhatCanBeNamedIsNeverFreed. -/
import Derived.Test.Qxb6500889aMuA1
namespace Go.Proofs.Qxb6500889a
open Go.RowKit
set_option linter.unusedSimpArgs false
set_option linter.unusedVariables false
/-- The stack of addresses that a law keeps, in new memory. -/
structure TdS (w4 : World) (H : HS) (X : XS) (v : Value) (xs : List Nat) (wr : World) : Prop where
  bel : Below w4.heap.size w4 wr
  own : wr.ownsRow w4.heap.size 66 1 v xs.length (aC xs)
  nm : ∀ a, a ∈ xs → a = 0 ∨ Nm H X a
section
variable {w4 wr w' : World} {H : HS} {X : XS} {v v' : Value} {xs ys : List Nat}
theorem TdS.app (h : TdS w4 H X v xs wr) (hb : Below w4.heap.size wr w') (ho : w'.ownsRow w4.heap.size 66 1 v' (xs.length + ys.length) (aC xs ++ aC ys)) (hn : ∀ a, a ∈ ys → a = 0 ∨ Nm H X a) : TdS w4 H X v' (xs ++ ys) w' := by
  refine ⟨h.bel.trans hb, ?_, fun a ha => ?_⟩
  · rw [List.length_append]
    have e : aC (xs ++ ys) = aC xs ++ aC ys := by simp [aC]
    rw [e]
    exact ho
  · rcases List.mem_append.1 ha with h1 | h1
    · exact h.nm a h1
    · exact hn a h1
theorem TdS.len (h : TdS w4 H X v xs wr) : sliceN v = xs.length := by
  obtain ⟨a, k, e⟩ := own_shape h.own
  rw [e]
  rfl
end
structure N1 (w0 : World) (wB k : Nat) (wr : World) : Prop where
  ex : ∃ ρ L T V H X G, LW w0 wB k ρ L T V H X G wr
set_option maxRecDepth 1000000 in
set_option maxHeartbeats 8000000 in
theorem named_walk (a : Option Addr) (n c : Nat) (l : List OpP) (w : World) (hs : Script w a n c l) :
    Calls Try.prog 7 #[.slice a n c] w fun e w' => e = .returned (.bool true) ∧ Below w.heap.size w w' := by
  have HSm := hid (fun w => small_walk a n c w)
  have HS := hid hs
  have HNw := hid (fun w => newWorld_walk w)
  clear hs
  by_cases hsm : n ≤ 65536
  rotate_left
  · as_aux_lemma =>
    rw [decide_eq_false hsm] at HSm
    go_enter Try.func7, Try.ntmps7
    go_wp2_with (go_at_call 9; refine (HSm.out _).mono ?_; rintro e w' ⟨rfl, rfl⟩)
    go_ret
    exact ⟨rfl, Below.refl _ _⟩
  rw [decide_eq_true hsm] at HSm
  have I1 : Hid ((Try.prog.info? 31).map (·.size) = some 5) := hid info_op
  go_enter Try.func7, Try.ntmps7
  go_wp2_with (go_at_call 9; refine (HSm.out _).mono ?_; rintro e w' ⟨rfl, rfl⟩)
  refine (HNw.out _).mono ?_
  rintro e w1 ⟨ρ1, L1, T1, V1, rfl, hW1, hl1, hb1⟩
  have HLI : Hid (N1 w' V1.wB 0 w1) := hid ⟨ρ1, L1, T1, V1, H0, X0, [], ⟨hW1, rfl, HI.zero, XN.zero, GvI.zero, Nat.le_refl _, hb1, hl1⟩⟩
  generalize V1.wB = wB at HLI ⊢
  clear hW1 hl1 hb1 HNw HSm
  go_wp2_with fail
  go_loopw [21] (fun v wr => ∃ i : Nat, i ≤ n ∧ v = .int .i64 (i : Int) ∧ Hid (N1 w' wB i wr)) (fun v _ => n - (intOf v).toNat)
  case atStart => exact ⟨0, by omega, rfl, HLI⟩
  case round =>
  clear HLI
  obtain ⟨i, hi, rfl, HLI⟩ := hrel
  obtain ⟨ρ0, L0, T0, V0, H00, X00, G0, hLW⟩ := HLI.out.ex
  have HLW := hid hLW
  clear hLW HLI
  by_cases hin : i < n
  rotate_left
  · as_aux_lemma =>
    have di : decide ((i : Int) < (n : Int)) = false := decide_eq_false (by omega)
    go_wp2
    go_ret
    exact ⟨rfl, HLW.out.bel⟩
  have di : decide ((i : Int) < (n : Int)) = true := decide_eq_true (by omega)
  have hii : (i : Int) < (n : Int) := by omega
  obtain ⟨o, ho, hok, b, off, rfl, hb, c0, c1, c2, c3, c4⟩ := (HS.out.below HLW.out.bel).at hin
  have HOk := hid hok
  clear ho hok
  obtain ⟨ob, hob⟩ : ∃ p, wr.heap.size = p := ⟨_, rfl⟩
  go_upto_region 7 with fail
  obtain ⟨w3, hw3⟩ : ∃ w2, wr.alloc (.cells #[.int .u8 (o.ac : Int), .int .u8 (o.k : Int), .int .u64 (o.a : Int), .int .u64 (o.b : Int), .int .u64 (o.c : Int)] 31) = w2 := ⟨_, rfl⟩
  have HW3 : Hid (LW w' wB i ρ0 L0 T0 V0 H00 X00 G0 w3 ∧ Blk w3 ob 31 (opC o)) := hid (by
    rw [← hw3]
    have hbk := Blk.new wr (opC o) 31
    rw [hob] at hbk
    exact ⟨HLW.out.below (nbel wr _), hbk⟩)
  simp only [hw3]
  clear hw3 hob c0 c1 c2 c3 c4 HLW
  go_wp2_with (refine wpList_load_blk rfl 31 _ rfl ob rfl (opC o) HW3.out.2 _ Try.underlying31 rfl I1.out ?_)
  refine (HW3.out.1.play (by omega) o HOk.out).mono ?_
  rintro e w4 ⟨H, X4, z, ρ, L, T, V, rfl, hs4, hL4, hf4⟩
  generalize doX X4 z = X at hL4
  generalize G0 ++ gvL o z = G at hL4
  have HL := hid hL4
  clear hs4 hL4 hf4 HW3 HOk
  have HTd0 : Hid (TdS w4 H X (.slice none 0 0) [] w4) := hid ⟨Below.refl _ _, World.ownsRow_nil _ _ _ _, fun a ha => (by cases ha)⟩
  obtain ⟨i0, hii0, hz0, hz1, hz2⟩ := info_addr
  have HIn := hid (And.intro hii0 (And.intro hz0 (And.intro hz1 hz2)))
  clear hii0 hz0 hz1 hz2
  obtain ⟨hB, hhB⟩ : ∃ b, L.hB = b := ⟨_, rfl⟩
  obtain ⟨xB, hxB⟩ : ∃ b, T.xB = b := ⟨_, rfl⟩
  have HhB := hid hhB
  have HxB := hid hxB
  clear hhB hxB
  have HXB : Hid (XB X) := hid (HL.out.xn.xb (by omega))
  go_wp2_with fail
  go_loopw [6, 7] (fun v j wr => ∃ k xs, k ≤ 4 ∧ j = .int .i64 ((k : Nat) : Int) ∧ Hid (TdS w4 H X v xs wr) ∧ xs.length ≤ 192 * k) (fun _ j _ => 4 - (intOf j).toNat)
  case atStart => exact ⟨0, [], by omega, rfl, HTd0, by simp⟩
  case round =>
    clear HTd0
    obtain ⟨k, xs, hk, rfl, HTd, hxl⟩ := hrel
    have HXl := hid hxl
    clear hxl
    by_cases hlt : k < 4
    · as_aux_lemma =>
      have dk : decide ((k : Int) < 4) = true := decide_eq_true (by omega)
      have i4 : (k : Int) < 4 := by omega
      have HLr := hid (HL.out.below HTd.out.bel)
      have cw := HLr.out.wm.cells
      rw [HLr.out.hv, HhB.out, HxB.out] at cw
      have cl := HLr.out.wm.lcell hlt
      rw [HLr.out.hv] at cl
      obtain ⟨lm, hlm⟩ : ∃ g, V.lm k = g := ⟨_, rfl⟩
      rw [hlm] at cl
      have cr := HLr.out.wm.mm.hm.rcell hlt
      rw [HhB.out] at cr
      obtain ⟨ra, rk, hrv⟩ := (HLr.out.wm.mm.hm.rt k hlt).shape
      have hrt := HLr.out.wm.mm.hm.rt k hlt
      obtain ⟨rn, hrn⟩ : ∃ x, (H.roots k).length = x := ⟨_, rfl⟩
      rw [hrn] at hrv
      rw [hrv] at cr hrt
      obtain ⟨g1, g2, g3⟩ := hrt.src
      have hrl := HLr.out.hi.rl k hlt
      obtain ⟨va, vk, hv⟩ := own_shape HTd.out.own
      obtain ⟨xn, hxn⟩ : ∃ x, xs.length = x := ⟨_, rfl⟩
      have HOw := hid HTd.out.own
      rw [hv, hxn] at HOw
      subst hv
      rw [hxn]
      have hbb : (xn + rn) * 8 ≤ 140737488355328 := by have := HXl.out; omega
      have hgl : (aC (H.roots k)).length = rn * 1 := by rw [aC_len, hrn]; omega
      have HSr := hid (And.intro g1 g2)
      have hbs : w4.heap.size ≤ wr.heap.size := HTd.out.bel.size
      have cw1 := cw.1
      have Hlm := hid hlm
      have HLm : Hid (LvM wr lm (lvK X k)) := hid (by rw [← Hlm.out]; exact HLr.out.wm.lv k hlt)
      have Hxn := hid hxn
      have Hrn := hid hrn
      have HNr : Hid (∀ a, a ∈ H.roots k → a = 0 ∨ Nm H X a) := hid (fun a ha => by
        by_cases e : a = 0
        · exact .inl e
        · exact .inr (.root k a hlt ha e))
      clear g1 g2 g3 hrt hrv hlm hxn hrn
      go_upto_region 13 with (at_builtin; refine wpList_append_row _ rfl (.tmp 32) (.tmp 41) 58 rfl w4.heap.size 66 i0 (.int .u64 0) 1 8 Try.underlying58 HIn.out.1 HIn.out.2.1 HIn.out.2.2.1 HIn.out.2.2.2 rfl (by decide) _ _ _ rfl HOw.out ra rn rk (aC (H.roots k)) rfl hgl HSr.out.2 HSr.out.1 (aC_one _) hbb (by decide) hbs ?_; intro v8 w8 hO8 hB8 hK8 hG8)
      have HT8 : Hid (TdS w4 H X v8 (xs ++ H.roots k) w8) := hid (HTd.out.app hB8 (by rw [Hxn.out, Hrn.out]; exact hO8) HNr.out)
      clear HTd HOw hO8 hB8 hK8 hG8 HSr cw cw1 cr cl HLm
      have HL8 := hid (HL.out.below HT8.out.bel)
      have cl : w8.cell? ⟨wB, 2 + k, none⟩ = some (.map (some lm)) := by have := HL8.out.wm.lcell hlt; rw [HL8.out.hv, Hlm.out] at this; exact this
      obtain ⟨E, hpn, hev, hek⟩ : LvM w8 lm (lvK X k) := by rw [← Hlm.out]; exact HL8.out.wm.lv k hlt
      have HPn := hid hpn
      have HEk : Hid (∀ e ∈ E, e.k ∈ lvK X k) := hid (fun e he => by rw [← hek]; exact List.mem_map_of_mem he)
      have hEl : E.length ≤ 128 := by
        have := congrArg List.length hek
        rw [List.length_map, lvK_len] at this
        rw [this]
        exact HXB.out.len k
      have HAd : Hid (∀ (wz : World) (h : Nat), Below w4.heap.size w4 wz → h ∈ lvK X k → ∃ ad, Nm H X ad ∧ Calls Try.prog 19 #[.pointer (some ⟨xB, 0, none⟩), .int .i64 (k : Int), .int .u64 (h : Int)] wz fun e w'' => e = .returned (.tuple #[.int .u64 (ad : Int), .int .u8 0]) ∧ w'' = wz) := hid (fun wz h hz hh => by
        obtain ⟨ad, h1, h2, h3⟩ := tgt_live HL.out.xn (by omega) hlt hh
        have := address_walk (HL.out.below hz).wm.mm hlt HXB.out h h3
        rw [HxB.out, h2] at this
        exact ⟨ad, .hand k ad hlt h1 (fun e => HL.out.hi.nz k hlt (by rw [← e]; exact h1)), this⟩)
      have Hlml : Hid (lm < w4.heap.size) := hid (by have := (HL.out.wm.lv k hlt).lt; rw [Hlm.out] at this; exact this)
      clear hpn hek hev HL8
      obtain ⟨r, hr⟩ : ∃ r, w8.heap.size = r := ⟨_, rfl⟩
      go_wp2_with (at_range; refine wpList_range_pn rfl (.tmp 48) 51 rfl Try.underlying51 lm E rfl HPn.out ?_; intro w9 hit9 hbe9 hsz9)
      go_frame
      have HT9 : Hid (TdS w4 H X v8 (xs ++ H.roots k) w9) := hid ⟨HT8.out.bel.trans (hbe9.mono HT8.out.bel.size), own_below HT8.out.own hbe9, HT8.out.nm⟩
      have HIt9 : Hid (IT w9 r lm E (E.map (·.k))) := hid (by rw [← hr]; exact hit9)
      have Hr4 : Hid (w4.heap.size ≤ r) := hid (by rw [← hr]; exact HT8.out.bel.size)
      have hls : (xs ++ H.roots k).length + World.rangeLeft w9 lm r ≤ 192 * k + 192 := by
        rw [HIt9.out.left, List.length_append]
        have h1 := List.length_filter_le (fun e : Ent => (E.map (·.k)).contains e.k) E
        have h2 := HXl.out
        omega
      have Hls := hid hls
      have HPn9 : Hid (PN w9 lm E) := hid (HPn.out.below hbe9)
      simp only [hr]
      clear hls hit9 hbe9 hsz9 HT8 HPn cl hr
      go_loopw [6] (fun v wq => ∃ ys Tq, Hid (TdS w4 H X v ys wq) ∧ Hid (IT wq r lm E Tq) ∧ Hid (PN wq lm E) ∧ Hid (ys.length + World.rangeLeft wq lm r ≤ 192 * k + 192)) (fun _ wq => World.rangeLeft wq lm r)
      case atStart => exact ⟨_, _, HT9, HIt9, HPn9, Hls⟩
      case round =>
        clear HT9 HIt9 Hls HPn9
        obtain ⟨ys, Tq, HTq, HIq, HPq, HLq⟩ := hrel
        go_upto_region 14 with fail
        refine wp_region_lit ?_
        refine wpList_next_pn rfl (.tmp 49) rfl r lm E Tq rfl HPq.out HIq.out ?_ ?_
        · as_aux_lemma =>
          intro hT
          have hyl : ys.length ≤ 192 * (k + 1) := by have := HLq.out; omega
          clear HIq HPq HLq
          go_frame
          go_wp2
          exact ⟨⟨k + 1, ys, by omega, by go_num, HTq, hyl⟩, by simp [intOf]; omega⟩
        · as_aux_lemma =>
          intro e wz he hkT hpz hiz huz hsz hent
          obtain ⟨v7, hv7⟩ : ∃ v, v = u6 := ⟨_, rfl⟩
          have hbz : Below w4.heap.size w4 wz := HTq.out.bel.trans (huz.below Hr4.out HTq.out.bel.size)
          obtain ⟨ad, hadn, had⟩ := HAd.out wz e.k hbz (HEk.out e he)
          have HCal := hid had
          have hoz := own_upd2 HTq.out.own huz (own_iter HTq.out.own HIq.out)
          have HTz : Hid (TdS w4 H X u6 ys wz) := hid ⟨hbz, hoz, HTq.out.nm⟩
          have hleft : World.rangeLeft wz lm r < World.rangeLeft wr lm r := by
            rw [hiz.left, HIq.out.left]
            exact left_less he hkT
          have Hleft := hid hleft
          have HIz := hid hiz
          have HPz := hid hpz
          have cx : wz.cell? ⟨wB, 1, none⟩ = some (.pointer (some ⟨xB, 0, none⟩)) := by
            have := (HL.out.below hbz).wm.cells.2.1
            rw [HL.out.hv, HxB.out] at this
            exact this
          have Hadn := hid hadn
          obtain ⟨ek, hek⟩ : ∃ k, e.k = k := ⟨_, rfl⟩
          obtain ⟨ev, hev⟩ : ∃ v, e.v = v := ⟨_, rfl⟩
          rw [hek, hev] at hent ⊢
          rw [hek] at HCal
          clear hv7 v7 hoz hbz hadn had hleft hiz hpz huz hsz he hkT HTq HIq HPq hek hev
          go_frame
          go_upto_region 16 with fail
          go_wp2_with fail
          refine HCal.out.mono ?_
          rintro y wy ⟨rfl, rfl⟩
          obtain ⟨va, vk, hv⟩ := own_shape HTz.out.own
          obtain ⟨yn, hyn⟩ : ∃ x, ys.length = x := ⟨_, rfl⟩
          have hOw := HTz.out.own
          rw [hv, hyn] at hOw
          have HOw := hid (own_below hOw (nbel wy (.cells #[.int .u64 (ad : Int)] 66)))
          rw [hv, hyn] at HTz ⊢
          clear hv
          have hbb : (yn + 1) * 8 ≤ 140737488355328 := by have := HLq.out; omega
          have hgl : (aC [ad]).length = 1 * 1 := by rw [aC_len]; rfl
          have hbs : w4.heap.size ≤ (wy.alloc (.cells #[.int .u64 (ad : Int)] 66)).heap.size := by have := HTz.out.bel.size; simp; omega
          have HNws := hid (newA wy ad wy.heap.size rfl)
          have Hyn := hid hyn
          clear hOw hyn cx hent
          go_wp2_with (at_builtin; refine wpList_append_row _ rfl (.tmp 66) (.tmp 68) 58 rfl w4.heap.size 66 i0 (.int .u64 0) 1 8 Try.underlying58 HIn.out.1 HIn.out.2.1 HIn.out.2.2.1 HIn.out.2.2.2 rfl (by decide) _ _ _ rfl HOw.out (some ⟨wy.heap.size, 0, none⟩) 1 1 (aC [ad]) rfl hgl (fun h => by cases h) HNws.out (aC_one _) hbb (by decide) hbs ?_; intro v8 w8 hO8 hB8 hK8 hG8)
          have hbn := nbel wy (.cells #[.int .u64 (ad : Int)] 66)
          have hrw : r < wy.heap.size := HIz.out.lt
          have hlw : lm < wy.heap.size := HPz.out.lt
          have hown_ne : r ≠ wy.heap.size := by omega
          have hkr : w8.heap[r]? = wy.heap[r]? := (hK8 r (by simp; omega) (fun g hg e => by
            subst e
            exact own_iter HTz.out.own HIz.out r hg rfl)).trans (hbn.block r hrw)
          have hkl : w8.heap[lm]? = wy.heap[lm]? := (hB8.block lm Hlml.out).trans (hbn.block lm hlw)
          have hT8 : TdS w4 H X v8 (ys ++ [ad]) w8 := ⟨(HTz.out.bel.trans (hbn.mono HTz.out.bel.size)).trans hB8, by
            rw [List.length_append, Hyn.out]
            have e : aC (ys ++ [ad]) = aC ys ++ aC [ad] := by simp [aC]
            rw [e]
            exact hO8, fun a ha => by
            rcases List.mem_append.1 ha with h1 | h1
            · exact HTz.out.nm a h1
            · rw [List.mem_singleton.1 h1]; exact .inr Hadn.out⟩
          have hI8 := HIz.out.of hkr hkl
          have hrl8 : World.rangeLeft w8 lm r = World.rangeLeft wy lm r := by rw [hI8.left, HIz.out.left]
          refine ⟨⟨ys ++ [ad], _, hid hT8, hid hI8, hid (HPz.out.of hkl), hid ?_⟩, ?_⟩
          · rw [hrl8, List.length_append, List.length_singleton]
            have := HLq.out
            have := Hleft.out
            omega
          · rw [hrl8]
            exact Hleft.out
    as_aux_lemma =>
    obtain rfl : k = 4 := by omega
    have hmm := @run_makeMap Try.prog
    obtain ⟨r, hr⟩ : ∃ r, wr.heap.size = r := ⟨_, rfl⟩
    have HT0 : Hid (TdS w4 H X u6 xs (wr.alloc (.map #[] 0)) ∧ PN (wr.alloc (.map #[] 0)) r [] ∧ w4.heap.size ≤ r) := hid (by
      have hbn := nbel wr (.map #[] 0)
      exact ⟨⟨HTd.out.bel.trans (hbn.mono HTd.out.bel.size), own_below HTd.out.own hbn, HTd.out.nm⟩, PN.new wr hr, by rw [← hr]; exact HTd.out.bel.size⟩)
    have Hr4 := hid HT0.out.2.2
    rw [show ((4 : Nat) : Int) = 4 from rfl]
    go_upto_region 21 with fail
    try simp only [hr]
    generalize wr.alloc (.map #[] 0) = wm at HT0 ⊢
    clear HTd hmm hr
    have Hx0 : Hid (xs.length ≤ 768 + 8192 * ([] : List Ent).length) := hid (by have := HXl.out; simp; omega)
    go_loopw [6] (fun v wq => ∃ ys E, Hid (TdS w4 H X v ys wq) ∧ Hid (PN wq r E) ∧ Hid ((∀ e ∈ E, e.v = .bool true) ∧ ∀ e ∈ E, Nm H X e.k) ∧ Hid (ys.length ≤ 768 + 8192 * E.length)) (fun v wq => (98305 - mapN wq r) * 8200 + sliceN v)
    case atStart => exact ⟨xs, [], hid HT0.out.1, hid HT0.out.2.1, hid ⟨fun e he => (by cases he), fun e he => (by cases he)⟩, Hx0⟩
    case round =>
      clear HT0 Hx0
      obtain ⟨ys, E, HTq, HPq, HVq, HXq⟩ := hrel
      have hE : E.length ≤ 98304 := HPq.out.bound (fun e he => by
        obtain ⟨⟨x, hx⟩, _⟩ := HL.out.hi.nm e.k (HVq.out.2 e he)
        exact (HL.out.hi.wf.lt hx).2)
      rcases List.eq_nil_or_concat ys with rfl | ⟨zs, x, rfl⟩
      · as_aux_lemma =>
        obtain ⟨va, vk, hv⟩ := own_shape HTq.out.own
        subst hv
        simp only [List.length_nil]
        have HN1 : Hid (N1 w' wB (i + 1) wr) := hid ⟨ρ, L, T, V, H, X, G, HL.out.below HTq.out.bel⟩
        clear HTq HPq HVq HXq
        go_wp2
        exact ⟨⟨i + 1, by omega, by go_num, HN1⟩, by simp [intOf]; omega⟩
      rw [List.concat_eq_append] at HTq HXq
      obtain ⟨g, gk, hv, hk1, hk2, cx, hpop⟩ := own_pop HTq.out.own
      have Hsl : Hid (sliceN u6 = zs.length + 1) := hid (by rw [hv]; rfl)
      subst hv
      have Hpop := hid hpop
      obtain ⟨zn, hzn⟩ : ∃ n, zs.length = n := ⟨_, rfl⟩
      rw [hzn] at hk1 cx Hpop Hsl ⊢
      have Hzn := hid hzn
      have hnl : zn ≤ 900000000 := by have := HXq.out; rw [List.length_append, List.length_singleton, hzn] at this; omega
      have i1 : (zn : Int) < (zn : Int) + 1 := by omega
      have dn : decide ((0 : Int) < (zn : Int) + 1) = true := decide_eq_true (by omega)
      have kb : (gk : Int) ≤ 9223372036854775807 := by unfold maxLen at hk2; omega
      have kb2 : (zn : Int) ≤ (gk : Int) := by omega
      have Hms : Hid (mapN wr r = E.length) := hid HPq.out.mapN
      have HE := hid hE
      have hxn : x = 0 ∨ Nm H X x := HTq.out.nm x (by simp)
      have hzsn : ∀ a, a ∈ zs → a = 0 ∨ Nm H X a := fun a ha => HTq.out.nm a (by simp [ha])
      have Hzsn := hid hzsn
      have HBe := hid HTq.out.bel
      clear hpop hzn hk1 hk2 hE hzsn
      by_cases hx0 : x = 0 ∨ ∃ e ∈ E, e.k = x
      · as_aux_lemma =>
        have HT2 : Hid (TdS w4 H X (.slice (some ⟨g, 0, none⟩) zn gk) zs wr) := hid ⟨HBe.out, by rw [Hzn.out]; exact Hpop.out, Hzsn.out⟩
        have HX2 : Hid (zs.length ≤ 768 + 8192 * E.length) := hid (by have := HXq.out; rw [List.length_append] at this; omega)
        by_cases h0 : x = 0
        · subst h0
          clear HTq Hpop hx0 hxn
          go_wp2
          exact ⟨⟨zs, E, HT2, HPq, HVq, HX2⟩, by simp [sliceN]⟩
        · obtain ⟨e, he, hek⟩ : ∃ e ∈ E, e.k = x := by
            rcases hx0 with h | h
            · exact absurd h h0
            · exact h
          have hlk := HPq.out.look (P := Try.prog) Try.underlying63 und_addr he
          rw [hek, HVq.out.1 e he] at hlk
          have d0 : ((x : Int) == 0) = false := by simp; omega
          clear HTq Hpop hx0 he hek hxn
          go_wp2
          exact ⟨⟨zs, E, HT2, HPq, HVq, HX2⟩, by simp [sliceN]⟩
      · as_aux_lemma =>
        have h0 : x ≠ 0 := fun e => hx0 (.inl e)
        have hne : ∀ e ∈ E, e.k ≠ x := fun e he hek => hx0 (.inr ⟨e, he, hek⟩)
        have hnx : Nm H X x := by
          rcases hxn with h | h
          · exact absurd h h0
          · exact h
        obtain ⟨⟨y, hy⟩, hcx⟩ := HL.out.hi.nm x hnx
        have hlk := HPq.out.lookZ (P := Try.prog) Try.underlying63 und_addr hne zero_bool
        obtain ⟨w2, b2, hput, hpn2, hu2⟩ := HPq.out.put (P := Try.prog) Try.underlying63 und_addr x (.bool true) hne
        have hbe2 : Below w4.heap.size w4 w2 := HBe.out.trans (hu2.below Hr4.out HBe.out.size)
        have HL2 := hid (HL.out.below hbe2)
        have cw : w2.cell? ⟨wB, 0, none⟩ = some (.pointer (some ⟨hB, 0, none⟩)) := by have := HL2.out.wm.cells.1; rw [HL2.out.hv, HhB.out] at this; exact this
        obtain ⟨mO, hmO⟩ : ∃ b, L.mO = b := ⟨_, rfl⟩
        obtain ⟨mC, hmC⟩ : ∃ b, L.mC = b := ⟨_, rfl⟩
        have c0 : w2.cell? ⟨hB, 0, none⟩ = some (.map (some mO)) := by rw [← HhB.out, ← hmO]; exact HL2.out.wm.mm.hm.cells.1
        have c10 : w2.cell? ⟨hB, 10, none⟩ = some (.map (some mC)) := by rw [← HhB.out, ← hmC]; exact HL2.out.wm.mm.hm.cells.2.2
        have hlo := HL2.out.wm.mm.hm.lookT hy
        rw [hmO] at hlo
        have hlc := HL2.out.wm.mm.hm.lookC x
        rw [hmC, hcx] at hlc
        have hobj := HL2.out.wm.mm.hm.o x y hy
        have hsz := hobj.sz
        obtain ⟨rn, hrn⟩ : ∃ rn, y.refs.length = rn := ⟨_, rfl⟩
        have o0 : w2.cell? ⟨L.ob x, 0, none⟩ = some (.slice (some ⟨L.rb x, 0, none⟩) rn rn) := by rw [← hrn]; exact hobj.o.cell 0
        have HRf := hid hobj.r
        have hrn2 : rn ≤ 8192 := by omega
        generalize L.ob x = oB at hlo o0
        obtain ⟨rB, hrB⟩ : ∃ b, L.rb x = b := ⟨_, rfl⟩
        rw [hrB] at o0 HRf
        have hown2 := own_upd2 Hpop.out hu2 (fun g' hg' => own_map Hpop.out HPq.out g' hg')
        have HOw := hid hown2
        have HPn2 := hid hpn2
        have HBe2 := hid hbe2
        have hgl : (aC y.refs).length = rn * 1 := by rw [aC_len, hrn]; omega
        have hbb : (zn + rn) * 8 ≤ 140737488355328 := by omega
        have hbs : w4.heap.size ≤ w2.heap.size := hbe2.size
        have d0 : ((x : Int) == 0) = false := by simp; omega
        have HSr : Hid (∀ ad, some (⟨rB, 0, none⟩ : Addr) = some ad → ∀ j u, (aC y.refs)[j]? = some u → w2.cell? (ad.add j) = some u) := hid (fun ad had j u hu => by
          cases had
          have e : (⟨rB, 0, none⟩ : Addr).add j = ⟨rB, j, none⟩ := by unfold Addr.add; split <;> simp_all
          rw [e, HRf.out.cell]
          exact hu)
        have Hrn := hid hrn
        have HNy : Hid (∀ a, a ∈ y.refs → a = 0 ∨ Nm H X a) := hid (fun a ha => by
          by_cases e : a = 0
          · exact .inl e
          · exact .inr (.ref x a y hnx hy ha e))
        have Hnx := hid hnx
        have hrlt : r < w2.heap.size := hpn2.lt
        clear HTq Hpop hx0 hne hnx hxn hy hcx hpn2 hu2 hbe2 HL2 hobj hown2 HRf hrB hrn hmO hmC
        go_wp2_with (at_builtin; refine wpList_append_row _ rfl (.tmp 119) (.tmp 123) 58 rfl w4.heap.size 66 i0 (.int .u64 0) 1 8 Try.underlying58 HIn.out.1 HIn.out.2.1 HIn.out.2.2.1 HIn.out.2.2.2 rfl (by decide) _ _ _ rfl HOw.out (some ⟨rB, 0, none⟩) rn rn (aC y.refs) rfl hgl (fun h => by cases h) HSr.out (aC_one _) hbb (by decide) hbs ?_; intro v8 w8 hO8 hB8 hK8 hG8)
        have hlen : (zs ++ y.refs).length = zn + rn := by rw [List.length_append, Hzn.out, Hrn.out]
        have hkr : w8.heap[r]? = w2.heap[r]? := hK8 r hrlt (fun g' hg' e => by
          subst e
          exact own_map HOw.out HPn2.out r hg' rfl)
        have hT8 : TdS w4 H X v8 (zs ++ y.refs) w8 := ⟨HBe2.out.trans hB8, by
          rw [hlen]
          have e : aC (zs ++ y.refs) = aC zs ++ aC y.refs := by simp [aC]
          rw [e]
          exact hO8, fun a ha => by
          rcases List.mem_append.1 ha with h1 | h1
          · exact Hzsn.out a h1
          · exact HNy.out a h1⟩
        have hP8 := HPn2.out.of hkr
        have hv8 : sliceN v8 = zn + rn := by rw [hT8.len, hlen]
        have hm8 : mapN w8 r = E.length + 1 := by rw [hP8.mapN]; simp
        refine ⟨⟨_, _, hid hT8, hid hP8, hid ⟨fun e he => ?_, fun e he => ?_⟩, hid ?_⟩, ?_⟩
        · rcases List.mem_append.1 he with h | h
          · exact HVq.out.1 e h
          · simp at h; subst h; rfl
        · rcases List.mem_append.1 he with h | h
          · exact HVq.out.2 e h
          · simp at h; subst h; exact Hnx.out
        · rw [hlen, List.length_append, List.length_singleton]
          have := HXq.out
          rw [List.length_append, List.length_singleton, Hzn.out] at this
          omega
        · rw [hm8, Hms.out, hv8]
          have := HE.out
          show (98305 - (E.length + 1)) * 8200 + (zn + rn) < (98305 - E.length) * 8200 + (zn + 1)
          omega
end Go.Proofs.Qxb6500889a
