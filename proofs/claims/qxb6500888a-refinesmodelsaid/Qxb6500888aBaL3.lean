/- The law ReachableIsNeverFreed. -/
import Derived.Test.Qxb6500888aBaQ4
import Derived.Test.Qxb6500888aBaT7
namespace Go.Proofs.Qxb6500888a
open Go.RowKit
set_option linter.unusedSimpArgs false
set_option linter.unusedVariables false

theorem OwR.cut {n0 : Nat} {w : World} {a : Option Addr} {n q : Nat} {xs : List Nat} {x : Nat} (h : OwR rtA n0 w (.slice a n q) (xs ++ [x])) : OwR rtA n0 w (.slice a xs.length q) xs := by
  obtain ⟨h1, h2⟩ := h
  refine ⟨by rw [flatA]; simp [rtA], ?_⟩
  rcases h2 with ⟨e, h3⟩ | ⟨g, cap, cur, e, h3, h4, h5, h6, h7, h8⟩
  · simp at h3
  · injection e with e1 e2 e3
    subst e1 e3
    rw [List.length_append, List.length_singleton] at h5
    refine .inr ⟨g, q, cur, rfl, h3, h4, by omega, h6, h7, ?_⟩
    rw [flatA] at h8 ⊢
    rw [List.length_append, List.length_singleton, List.map_append] at h8
    have e4 : rtA.n = 1 := rfl
    rw [e4] at h8 ⊢
    have h9 : (cur.toList.take ((xs.length + 1) * 1)).take xs.length = (xs.map (fun (x : Nat) => (.int .u64 (x : Int) : Value)) ++ [x].map fun (x : Nat) => (.int .u64 (x : Int) : Value)).take xs.length := by rw [h8]
    rw [List.take_take, show min xs.length ((xs.length + 1) * 1) = xs.length * 1 by omega] at h9
    rw [h9]
    exact List.take_left' (by simp)
theorem OwR.neM {n0 : Nat} {w : World} {v : Value} {xs : List Nat} {m : Nat} {f : Nat → Option Value} (h : OwR rtA n0 w v xs) (hm : MF w m f) : ∀ k, v.ownBlock = some k → k ≠ m := fun k hk e => by
  subst e
  rcases h.2 with ⟨h1, _⟩ | ⟨g', cap, cur, h1, h2, h3, _⟩
  · rw [h1] at hk; cases hk
  · rw [h1] at hk
    cases hk
    have hb : Blk w g' rtA.t cur.toList := by
      unfold Blk
      rw [h3, Array.toArray_toList]
    exact hm.ne hb rfl
def allA : List Nat := (List.range 32768).map (65536 + ·)
theorem allA_nd : allA.Nodup := by
  unfold allA
  rw [List.nodup_iff_pairwise_ne, List.pairwise_map]
  exact List.Pairwise.imp (fun h e => h (by omega)) (List.nodup_iff_pairwise_ne.1 List.nodup_range)
theorem seen_len {S : List Nat} (hn : S.Nodup) (hr : ∀ x ∈ S, 65536 ≤ x ∧ x < 98304) : S.length ≤ 32768 := by
  have h1 := (perm_part allA_nd hn (fun x hx => by
    have := hr x hx
    exact List.mem_map.2 ⟨x - 65536, List.mem_range.2 (by omega), by omega⟩)).length_eq
  rw [List.length_append] at h1
  have h2 : allA.length = 32768 := by unfold allA; rw [List.length_map, List.length_range]
  omega
/-- The search under way. -/
structure DfI (wp : World) (A : Nat → Prop) (mS : Nat) (S td : List Nat) (v : Value) (wr : World) : Prop where
  bf : BF wr mS (inB S)
  row : OwR rtA wp.heap.size wr v td
  bel : Below wp.heap.size wp wr
  lo : wp.heap.size ≤ mS
  nd : S.Nodup
  sr : ∀ x ∈ S, 65536 ≤ x ∧ x < 98304
  ta : ∀ x ∈ td, A x
  tl : td.length ≤ 256 + S.length * 8192
theorem DfI.below {wp w' : World} {A : Nat → Prop} {mS : Nat} {S td : List Nat} {v : Value} {wr : World} (h : DfI wp A mS S td v wr) (hb : Below wr.heap.size wr w') : DfI wp A mS S td v w' := ⟨MF.below h.bf hb, h.row.below hb, h.bel.trans (hb.mono h.bel.size), h.lo, h.nd, h.sr, h.ta, h.tl⟩
def DfN (wp : World) (A : Nat → Prop) (mS : Nat) (v : Value) (wr : World) (N : Nat) : Prop := ∃ S td, DfI wp A mS S td v wr ∧ (32769 - S.length) * 8193 + td.length ≤ N
def RcI (w0 : World) (wB k : Nat) (wr : World) : Prop := ∃ ρ L T G B atp Z, LW w0 wB k ρ L T G B wr ∧ CI G B atp Z
set_option maxRecDepth 1000000 in
set_option maxHeartbeats 8000000 in
theorem reach_walk (a : Option Addr) (n c : Nat) (l : List OpP) (w : World) (hs : Script w a n c l) :
    Calls Try.prog 8 #[.slice a n c] w fun e w' => e = .returned (.bool true) ∧ Below w.heap.size w w' := by
  have HSm := hid (fun w => small_walk a n c w)
  have HS := hid hs
  have HNw := hid (fun w => newWorld_walk w)
  clear hs
  by_cases hsm : n ≤ 65536
  rotate_left
  · as_aux_lemma =>
    rw [decide_eq_false hsm] at HSm
    go_enter Try.func8, Try.ntmps8
    go_wp2_with (go_at_call 13; refine (HSm.out _).mono ?_; rintro e w' ⟨rfl, rfl⟩)
    go_ret
    exact ⟨rfl, Below.refl _ _⟩
  rw [decide_eq_true hsm] at HSm
  go_enter Try.func8, Try.ntmps8
  go_wp2_with (go_at_call 13; refine (HSm.out _).mono ?_; rintro e w' ⟨rfl, rfl⟩)
  refine (HNw.out _).mono ?_
  rintro e w1 ⟨wB, ρ1, L1, T1, rfl, hW1, hl1, hb1, hwB⟩
  have HLI : Hid (RcI w' wB 0 w1) := hid ⟨ρ1, L1, T1, G0, B0, fun _ => 0, _, ⟨hW1, InvM.zero, hb1, hl1⟩, CI.zero _⟩
  have HwB := hid hwB
  clear hW1 hl1 hb1 HNw HSm hwB
  go_wp2_with fail
  go_loopw [18] (fun v wr => ∃ i : Nat, i ≤ n ∧ v = .int .i64 (i : Int) ∧ Hid (RcI w' wB i wr)) (fun v _ => n - (intOf v).toNat)
  case atStart => exact ⟨0, by omega, rfl, HLI⟩
  case round =>
  clear HLI
  obtain ⟨i, hi, rfl, HLI⟩ := hrel
  obtain ⟨ρ, L, T, G, B, atp, Z, hLW, hci⟩ := HLI.out
  have HLW := hid hLW
  have Hci := hid hci
  clear hLW hci HLI
  by_cases hin : i < n
  rotate_left
  · as_aux_lemma =>
    have di : decide ((i : Int) < (n : Int)) = false := decide_eq_false (by omega)
    go_wp2
    go_ret
    exact ⟨rfl, HLW.out.bel⟩
  have di : decide ((i : Int) < (n : Int)) = true := decide_eq_true (by omega)
  have hii : (i : Int) < (n : Int) := by omega
  obtain ⟨o, ho, hok, b, off, rfl, hb, c0, c1, c2, c3, c4⟩ := (HS.out.below HLW.out.bel).at hin
  have HOk := hid hok
  clear ho hok
  obtain ⟨ob, hob⟩ : ∃ p, wr.heap.size = p := ⟨_, rfl⟩
  go_upto_region 7 with fail
  obtain ⟨w3, hw3⟩ : ∃ w2, wr.alloc (.cells #[.int .u8 (o.kind : Int), .int .u8 (o.m : Int), .int .u64 (o.a : Int), .int .u64 (o.b : Int), .int .u64 (o.c : Int)] 31) = w2 := ⟨_, rfl⟩
  have HW3 : Hid (LW w' wB i ρ L T G B w3 ∧ Blk w3 ob 31 (opC o) ∧ ρ ob = 0) := hid (by
    rw [← hw3]
    have hbk := Blk.new wr (opC o) 31
    rw [hob] at hbk
    exact ⟨HLW.out.below (nbel wr _), hbk, HLW.out.new0 (by omega)⟩)
  simp only [hw3]
  clear hw3 hob c0 c1 c2 c3 c4 HLW
  have I1 : Hid ((Try.prog.info? 31).map (·.size) = some 5) := hid info_op
  go_wp2_with (refine wpList_load_blk rfl 31 _ rfl ob rfl (opC o) HW3.out.2.1 _ Try.underlying31 rfl I1.out ?_)
  refine (HW3.out.1.play (by omega) o HOk.out).mono ?_
  rintro e w4 ⟨V, ρ4, L4, T4, rfl, h4⟩
  have HL4 := hid h4.lw
  obtain ⟨Z4, hci4⟩ := Hci.out.play HW3.out.1.inv (by omega) o
  generalize (playS G B o).2.2.1 = G4 at HL4 hci4
  generalize (playS G B o).2.2.2 = B4 at HL4 hci4
  generalize (if o.kind = 7 then G4.word else atp) = atp4 at hci4
  obtain ⟨rr, hrr⟩ : ∃ x, (rzH (playS G B o).1.1 (playS G B o).1.2 V).toArray = x := ⟨_, rfl⟩
  rw [hrr]
  have Hci4 := hid hci4
  clear h4 HW3 hrr hci4 Hci I1 HOk
  have hmk := @run_makeMap Try.prog
  obtain ⟨mS, hmS⟩ : ∃ x, w4.heap.size = x := ⟨_, rfl⟩
  have HM0 : Hid (BF (w4.alloc (.map #[] 0)) mS (inB [])) := hid ((BF.new w4 hmS).congr (fun a => rfl))
  have HMb : Hid (Below w4.heap.size w4 (w4.alloc (.map #[] 0))) := hid (nbel w4 _)
  have HmS : Hid (w4.heap.size ≤ mS) := hid (by omega)
  go_upto_region 9 with fail
  try simp only [hmS]
  generalize w4.alloc (.map #[] 0) = w5 at HM0 HMb ⊢
  clear hmk hmS
  have HAR := hid (allRoots_walk (HL4.out.below HMb.out).wm)
  go_wp2_with fail
  refine HAR.out.mono ?_
  rintro e w6 ⟨v6, rfl, h6, hb6⟩
  obtain ⟨a6, q6, rfl⟩ := h6.shape
  have HD0 : Hid (DfN w4 (Ac B4 Z4) mS (.slice a6 (rootsK B4 4).length q6) w6 2000000000) := hid (by
    have hrl := rootsK_len HL4.out.inv.bo.nr 4
    refine ⟨[], rootsK B4 4, ⟨MF.below HM0.out hb6, h6.mono HMb.out.size, HMb.out.trans (hb6.mono HMb.out.size), HmS.out, List.nodup_nil, fun x hx => (by cases hx), fun x hx => ?_, by simp only [List.length_nil]; omega⟩, ?_⟩
    · obtain ⟨m, hm, hx2⟩ := rootsK_mem hx
      exact Hci4.out.y1 m hm x hx2
    · simp only [List.length_nil]
      omega)
  generalize (rootsK B4 4).length = n6 at HD0 ⊢
  clear HAR h6 hb6 HM0 HMb HmS
  go_wp2_with fail
  go_loopw [7] (fun v wr => ∃ ax nx qx, v = .slice ax nx qx ∧ Hid (∃ N, DfN w4 (Ac B4 Z4) mS (.slice ax nx qx) wr N)) (fun v wr => leastN (fun N => DfN w4 (Ac B4 Z4) mS v wr N))
  case atStart => exact ⟨a6, _, q6, rfl, hid ⟨_, HD0.out⟩⟩
  case round =>
  obtain ⟨ax, nx, qx, rfl, Hsp0⟩ := hrel
  have Hsp := hid (leastN_spec Hsp0.out)
  clear Hsp0 HD0
  obtain ⟨S, td, hdf, hmu⟩ := Hsp.out
  obtain ⟨N, hN⟩ : ∃ N, leastN (fun N => DfN w4 (Ac B4 Z4) mS (.slice ax nx qx) wr N) = N := ⟨_, rfl⟩
  rw [hN] at hmu
  have HN := hid hN
  have HDf := hid hdf
  have Hmu := hid hmu
  clear Hsp hN hdf hmu
  have hv : nx = td.length := by
    obtain ⟨ax', qx', hv⟩ := HDf.out.row.shape
    injection hv
  rcases List.eq_nil_or_concat td with htd | ⟨td', x, htd⟩
  · as_aux_lemma =>
    subst htd
    have hv' : nx = 0 := hv
    clear hv
    subst hv'
    have HW := hid (HL4.out.below HDf.out.bel)
    have c2 := HW.out.wm.cells.2.2.1
    have ce := HW.out.wm.bm.gm.ccells.2.2.2.2.2.2
    rw [Hci4.out.er] at ce
    have HR : Hid (RcI w' wB (i + 1) wr) := hid ⟨_, _, _, _, _, _, _, HW.out, Hci4.out⟩
    clear HDf HW HN Hmu
    go_wp2
    exact ⟨⟨i + 1, by omega, by go_num, HR⟩, by simp [intOf]; omega⟩
  subst htd
  rw [List.concat_eq_append] at HDf Hmu hv
  obtain ⟨m, hm⟩ : ∃ m, td'.length = m := ⟨_, rfl⟩
  have hlen : (td' ++ [x]).length = m + 1 := by rw [List.length_append, hm]; rfl
  rw [hlen] at hv
  subst hv
  obtain ⟨a', q', e, hget⟩ := HDf.out.row.rdA
  obtain ⟨g, ha', _, hg, cx⟩ := hget m x (by rw [List.getElem?_append_right (by omega), hm, Nat.sub_self]; rfl)
  subst ha'
  injection e with e1 e2 e3
  subst e1 e3
  have hcap := HDf.out.row.rx.cap
  have iq1 : (m : Int) + 1 ≤ (qx : Int) := by have := hcap.2; omega
  have iq2 : (qx : Int) ≤ 9223372036854775807 := by have := hcap.1; unfold maxLen at this; omega
  have im1 : (m : Int) + 1 - 1 = (m : Int) := by omega
  have im2 : (((m + 1 : Nat) : Int)) - 1 = (m : Int) := by omega
  have dm : decide (((m + 1 : Nat) : Int) > 0) = true := decide_eq_true (by omega)
  have dm2 : decide ((0 : Int) < (m : Int) + 1) = true := decide_eq_true (by omega)
  have hAx : Ac B4 Z4 x := HDf.out.ta x (by simp)
  have HAx := hid hAx
  have HMu : Hid ((32769 - S.length) * 8193 + m + 1 ≤ N) := hid (by have := Hmu.out; rw [hlen] at this; omega)
  have Hm := hid hm
  have HRow : Hid (OwR rtA w4.heap.size wr (.slice (some ⟨g, 0, none⟩) m qx) td') := hid (by have := HDf.out.row.cut; rw [hm] at this; exact this)
  clear hget hlen hcap hAx Hmu e2 hg hm
  by_cases hx : x ∈ S
  · as_aux_lemma =>
    have hl := HDf.out.bf.look x
    rw [show inB S x = true from decide_eq_true hx] at hl
    have HD2 : Hid (DfN w4 (Ac B4 Z4) mS (.slice (some ⟨g, 0, none⟩) m qx) wr (N - 1) ∧ N - 1 < N) := hid (by
      have h1 := HMu.out
      have h2 := Hm.out
      have h3 := HDf.out.tl
      rw [List.length_append, List.length_singleton] at h3
      exact ⟨⟨S, td', ⟨HDf.out.bf, HRow.out, HDf.out.bel, HDf.out.lo, HDf.out.nd, HDf.out.sr, fun y hy => HDf.out.ta y (by simp [hy]), by omega⟩, by omega⟩, by omega⟩)
    clear HDf HRow HMu
    go_wp2
    refine ⟨⟨_, _, _, rfl, hid ⟨N - 1, HD2.out.1⟩⟩, ?_⟩
    rw [HN.out]
    exact Nat.lt_of_le_of_lt (leastN_le HD2.out.1) HD2.out.2
  have hl := HDf.out.bf.look x
  rw [show inB S x = false from decide_eq_false hx] at hl
  obtain ⟨w7, hput, h7, hu7⟩ := HDf.out.bf.put x
  obtain ⟨n2, q2, hsh⟩ := st_some (Hci4.out.Ac_st HAx.out)
  have hin2 := Hci4.out.ok.hd x n2 q2 hsh
  obtain ⟨s, hs⟩ : ∃ s, offA x = s := ⟨_, rfl⟩
  rw [hs] at hin2
  have hsx : 65536 + s = x := by rw [← hs]; exact offA_in hin2.1
  have HD7 : Hid (DfI w4 (Ac B4 Z4) mS (S ++ [x]) td' (.slice (some ⟨g, 0, none⟩) m qx) w7) := hid (by
    have h3 := HDf.out.tl
    rw [List.length_append, List.length_singleton] at h3
    rw [inB_add] at h7
    refine ⟨h7, HRow.out.upd hu7 (HRow.out.neM HDf.out.bf), HDf.out.bel.trans (hu7.below HDf.out.lo HDf.out.bel.size), HDf.out.lo, ?_, fun y hy => ?_, fun y hy => HDf.out.ta y (by simp [hy]), ?_⟩
    · rw [List.nodup_append]
      exact ⟨HDf.out.nd, by simp, fun y hy z hz e => by simp at hz; subst hz; subst e; exact hx hy⟩
    · rcases List.mem_append.1 hy with h1 | h1
      · exact HDf.out.sr y h1
      · simp at h1; subst h1; omega
    · rw [List.length_append, List.length_singleton]; omega)
  have HSl : Hid (S.length ≤ 32768 ∧ td'.length ≤ 256 + S.length * 8192) := hid ⟨seen_len HDf.out.nd HDf.out.sr, by
    have h3 := HDf.out.tl
    rw [List.length_append, List.length_singleton] at h3
    omega⟩
  have HSh := hid (shapeOf_walk (HL4.out.below HD7.out.bel).wm.bm.gm x)
  rw [hsh] at HSh
  have e0 : shV ((some (n2, q2)).getD (0, 0)) = .agg #[.int .i64 (n2 : Int), .int .i64 (q2 : Int)] := rfl
  rw [e0, Option.isSome_some] at HSh
  have c0 := (HL4.out.below HD7.out.bel).wm.cells.1
  have Hsh := hid (And.intro hsh hs)
  have i1 : (n2 : Int) ≤ 8192 := by omega
  have i2 : (s : Int) + (n2 : Int) < 32768 := by omega
  have i3 : (x : Int) - 65536 = (s : Int) := by omega
  have i4 : (s : Int) < 32768 := by omega
  have I0 : Hid ((Try.prog.info? 73).map (·.size) = some 2) := hid info_sh
  have HOne : Hid (∀ u ∈ [(.int .i64 (n2 : Int) : Value), .int .i64 (q2 : Int)], u.oneCell' = true) := hid (fun u hu => by
    simp only [List.mem_cons, List.not_mem_nil, or_false] at hu
    rcases hu with rfl | rfl <;> rfl)
  clear h7 hu7 hsh hin2 hs hsx e0 HRow HDf hx
  as_aux_lemma =>
  go_upto_region 15 with fail
  clear hl hput cx
  go_wp2_with fail
  refine HSh.out.mono ?_
  rintro e w8 ⟨rfl, hb8⟩
  have HD8 := hid (HD7.out.below hb8)
  obtain ⟨sB, hsB⟩ : ∃ x, w8.heap.size = x := ⟨_, rfl⟩
  have hbz := Blk.new w8 [.int .i64 0, .int .i64 0] 73
  rw [hsB] at hbz
  have HZ := hid hbz
  clear hb8 HSh c0 hbz HD7
  go_upto_region 16 with (refine wpList_store_blk rfl 73 _ _ rfl sB rfl [.int .i64 (n2 : Int), .int .i64 (q2 : Int)] rfl HZ.out rfl I0.out HOne.out ?_; intro w9 HB9 HU9)
  have HD9 : Hid (DfI w4 (Ac B4 Z4) mS (S ++ [x]) td' (.slice (some ⟨g, 0, none⟩) m qx) w9 ∧ Blk w9 sB 73 [.int .i64 (n2 : Int), .int .i64 (q2 : Int)]) := hid (by
    have h1 := nbel w8 (.cells #[.int .i64 0, .int .i64 0] 73)
    have h2 := HU9.out.below (B := w8.heap.size) (by omega) h1.size
    exact ⟨HD8.out.below (h1.trans h2), HB9.out⟩)
  clear HB9 HU9 HZ HD8 hsB HOne I0
  go_wp2_with fail
  go_loopw [11] (fun v wr => ∃ j : Nat, j ≤ n2 + 1 ∧ v = .int .i64 (j : Int) ∧ Hid (DfI w4 (Ac B4 Z4) mS (S ++ [x]) td' (.slice (some ⟨g, 0, none⟩) m qx) wr ∧ Blk wr sB 73 [.int .i64 (n2 : Int), .int .i64 (q2 : Int)])) (fun v _ => n2 + 1 - (intOf v).toNat)
  case atStart => exact ⟨0, by omega, rfl, HD9⟩
  case round =>
  clear HD9
  obtain ⟨j, hj, rfl, HD⟩ := hrel
  have cn : wr.cell? ⟨sB, 0, none⟩ = some (.int .i64 (n2 : Int)) := HD.out.2.cell 0
  have HW := hid (HL4.out.below HD.out.1.bel)
  by_cases hjn : j ≤ n2
  · as_aux_lemma =>
    have dj : decide ((j : Int) ≤ (n2 : Int)) = true := decide_eq_true (by omega)
    have ij : (j : Int) ≤ (n2 : Int) := by omega
    have c1 := HW.out.wm.cells.2.1
    have cs := HW.out.wm.bm.gm.scell
    obtain ⟨t, ht⟩ : ∃ t, s + j = t := ⟨_, rfl⟩
    have it : (s : Int) + (j : Int) = (t : Int) := by omega
    have it2 : (t : Int) < 32768 := by omega
    have ct := HW.out.wm.bm.gm.tcell (i := t) (by omega)
    rw [← ht, ← Hsh.out.2, Hci4.out.tk x n2 q2 Hsh.out.1 j hjn, Hsh.out.2, ht] at ct
    clear ht HW
    go_wp2
    exact ⟨⟨j + 1, by omega, by go_num, HD⟩, by simp [intOf]; omega⟩
  have dj : decide ((j : Int) ≤ (n2 : Int)) = false := decide_eq_false (by omega)
  have ij : ¬ ((j : Int) ≤ (n2 : Int)) := by omega
  have ij2 : (n2 : Int) < (j : Int) := by omega
  have HRf := hid (refsOf_walk HW.out.wm Hci4.out.ok (Hci4.out.Ac_st HAx.out))
  as_aux_lemma =>
  go_wp2_with fail
  refine HRf.out.mono ?_
  rintro e wa ⟨va, rfl, hra, hba⟩
  obtain ⟨aa, qa, rfl⟩ := hra.shape
  have HDa := hid (HD.out.1.below hba)
  have hsrc := hra.rx.src
  clear HD HW HRf cn hba
  have hrl : (refL G4 x).length ≤ 8192 := by
    have h1 := refP_len G4 x (rfOf G4 x)
    have h2 := Hci4.out.ok.hd x n2 q2 Hsh.out.1
    have h3 := (stand_rf Hsh.out.1).1
    unfold refL
    omega
  have HRl := hid hrl
  clear hrl
  go_wp2_with (at_builtin; refine stopHere ?_)
  intro _
  refine wpList_app_l okA rfl _ _ HDa.out.row rfl (refL G4 x) rfl aa (refL G4 x).length qa rfl rfl (fun h => hsrc.2.1 h) hsrc.1 (by
    have h1 := HRl.out
    have h2 := HDa.out.tl
    have h3 := HSl.out
    rw [List.length_append, List.length_singleton] at h2
    show (td'.length + (refL G4 x).length) * 8 ≤ _
    omega) HDa.out.bel.size ?_
  intro vb wb hrb hkb hgb
  obtain ⟨ab, qb, rfl⟩ := hrb.out.shape
  have HDb : Hid (DfN w4 (Ac B4 Z4) mS (.slice ab (td' ++ refL G4 x).length qb) wb (N - 1) ∧ N - 1 < N) := hid (by
    have h1 := HMu.out
    have h2 := Hm.out
    have h3 := HDa.out.tl
    have h4 := HSl.out
    have h5 := HRl.out
    have h6 := HDa.out.row.neM HDa.out.bf
    rw [List.length_append, List.length_singleton] at h3
    refine ⟨⟨S ++ [x], td' ++ refL G4 x, ⟨MF.of HDa.out.bf (hkb.out.blk _ (MF.lt HDa.out.bf) (fun k hk => (h6 k hk).symm)), hrb.out, HDa.out.bel.trans (hkb.out.below HDa.out.row.hi HDa.out.bel.size), HDa.out.lo, HDa.out.nd, HDa.out.sr, fun y hy => ?_, ?_⟩, ?_⟩, by omega⟩
    · rcases List.mem_append.1 hy with h7 | h7
      · exact HDa.out.ta y h7
      · exact Hci4.out.ref_Ac x HAx.out y h7
    · rw [List.length_append, List.length_append, List.length_singleton]; omega
    · rw [List.length_append, List.length_append, List.length_singleton]; omega)
  generalize (td' ++ refL G4 x).length = nb at HDb ⊢
  clear HDa hrb hkb hgb hsrc hra
  go_wp2
  refine ⟨⟨_, _, _, rfl, hid ⟨N - 1, HDb.out.1⟩⟩, ?_⟩
  rw [HN.out]
  exact Nat.lt_of_le_of_lt (leastN_le HDb.out.1) HDb.out.2
end Go.Proofs.Qxb6500888a
