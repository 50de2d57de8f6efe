/- WalkIsBounded: the law. -/
import Derived.Test.Qxb6500891aPtWkS
import Derived.Test.Qxb6500891aPtWkA
import Derived.Test.Qxb6500891aPtStrs
import Derived.Deep.DeepCutAuto
import Derived.Deep.CutBlock
namespace Go.Proofs.Qxb6500891a
open Go.RowKit
set_option linter.unusedSimpArgs false
set_option linter.unusedVariables false

structure Lw (w0 : World) (pW : Nat) (S : WS) (w : World) : Prop where
  bel : Below w0.heap.size w0 w
  a : ∃ cs, Blk w pW 68 cs ∧ WOk cs S
  inv : WInv S
/-- The walk, the walk before, the step. -/
structure Lo (w0 : World) (pW pB pO : Nat) (SA SB : WS) (oc : List Value) (w : World) : Prop where
  sw : Sw w0 SA SB pW pB w
  bo : Blk w pO 71 oc
theorem Lo.below {w0 w w' : World} {pW pB pO : Nat} {SA SB : WS} {oc : List Value} (h : Lo w0 pW pB pO SA SB oc w) (hb : Below w.heap.size w w') : Lo w0 pW pB pO SA SB oc w' := ⟨h.sw.below hb, h.bo.below hb⟩
theorem Lo.lw {w0 w : World} {pW pB pO : Nat} {SA SB : WS} {oc : List Value} (h : Lo w0 pW pB pO SA SB oc w) : Lw w0 pW SA w := ⟨h.sw.bel, h.sw.a, h.sw.ia⟩
section
variable {w0 w : World} {pW : Nat} {S : WS}
theorem Lw.below {w' : World} (h : Lw w0 pW S w) (hb : Below w.heap.size w w') : Lw w0 pW S w' := ⟨h.bel.trans (hb.mono h.bel.size), by obtain ⟨cs, h1, h2⟩ := h.a; exact ⟨cs, h1.below hb, h2⟩, h.inv⟩
theorem Lw.links (h : Lw w0 pW S w) : Calls Try.prog 34 #[.pointer (some ⟨pW, 0, none⟩)] w fun e w' => e = .returned (.int .i64 (S.links : Int)) ∧ w' = w := by obtain ⟨cs, h1, h2⟩ := h.a; exact links_walk _ _ cs S w h1 h2
theorem Lw.steps (h : Lw w0 pW S w) : Calls Try.prog 35 #[.pointer (some ⟨pW, 0, none⟩)] w fun e w' => e = .returned (.int .i64 (S.steps : Int)) ∧ w' = w := by obtain ⟨cs, h1, h2⟩ := h.a; exact steps_walk _ _ cs S w h1 h2
theorem Lw.left (h : Lw w0 pW S w) : Calls Try.prog 31 #[.pointer (some ⟨pW, 0, none⟩)] w fun e w' => e = .returned (.int .i64 (leftL S.lv : Int)) ∧ Below w.heap.size w w' := by obtain ⟨cs, h1, h2⟩ := h.a; exact left_walk _ _ cs S w h1 h2 h.inv.d9
theorem Lw.done (h : Lw w0 pW S w) : Calls Try.prog 33 #[.pointer (some ⟨pW, 0, none⟩)] w fun e w' => e = .returned (.bool S.lv.isEmpty) ∧ w' = w := by obtain ⟨cs, h1, h2⟩ := h.a; exact done_walk _ _ cs S w h1 h2
theorem left_empty {cs : List Value} (hk : WOk cs S) : ((leftL S.lv : Int) == 0) = S.lv.isEmpty := by
  rw [Bool.eq_iff_iff, beq_iff_eq, List.isEmpty_iff, ← left_zero hk]
  omega
end
theorem start_inv {S : WS} {l : List Nat} {code : Int} {ab : Bool} {ds : List Value} (h0 : S.links = 0) (h1 : S.steps = 0) (h2 : S.tk = false)
    (h : (code ≠ 0 ∧ S.lv = []) ∨ (code = 0 ∧ (l.head? == some 47) = ab ∧ ∃ o sp, PathOk ds o l sp ∧ ((sp = [] ∧ S.lv = []) ∨ (sp ≠ [] ∧ S.lv = [⟨l, sp, 0, false⟩])))) : WInv S := by
  have hnil : S.lv = [] → WInv S := fun h => ⟨by rw [h]; simp, by omega, by rw [h, h1]; simp [leftL], fun k L _ hL => by rw [h] at hL; simp at hL, fun h3 => by rw [h2] at h3; cases h3⟩
  rcases h with ⟨_, h3⟩ | ⟨_, _, o, sp, hp, ⟨_, h3⟩ | ⟨_, h3⟩⟩
  · exact hnil h3
  · exact hnil h3
  · have h128 := hp.n128
    refine ⟨by rw [h3]; simp, by omega, ?_, fun k L hk hL => ?_, fun h4 => by rw [h2] at h4; cases h4⟩
    · rw [h3, h1, h0]
      simp [leftL]
      omega
    · have hlt := (List.getElem?_eq_some_iff.1 hL).1
      rw [h3] at hlt
      simp at hlt
      omega
theorem exp_inv {S : WS} {l : List Nat} {sp : List Sp} (h : WInv S) (htk : S.tk = true) (hl : S.links < 8) (hsp : sp.length ≤ 128) :
    WInv { S with lv := if sp = [] then S.lv else S.lv ++ [⟨l, sp, 0, S.tn⟩], links := S.links + 1, tk := false } ∧ leftL S.lv ≤ leftL (if sp = [] then S.lv else S.lv ++ [⟨l, sp, 0, S.tn⟩]) := by
  have h1 := h.dl
  have h2 := h.sum
  by_cases hs : sp = []
  · simp only [if_pos hs]
    exact ⟨⟨by show S.lv.length ≤ S.links + 1 + 1; omega, by show S.links + 1 ≤ 8; omega, by show S.steps + leftL S.lv ≤ 128 * (S.links + 1 + 1); omega, h.nd, fun h => (by cases h)⟩, Nat.le_refl _⟩
  · simp only [if_neg hs]
    have hle : leftL (S.lv ++ [⟨l, sp, 0, S.tn⟩]) = leftL S.lv + sp.length := by rw [leftL_snoc]; rfl
    refine ⟨⟨by show (S.lv ++ [_]).length ≤ S.links + 1 + 1; simp; omega, by show S.links + 1 ≤ 8; omega, ?_, fun k L hk hL => ?_, fun h => (by cases h)⟩, by rw [hle]; omega⟩
    · show S.steps + leftL (S.lv ++ [⟨l, sp, 0, S.tn⟩]) ≤ 128 * (S.links + 1 + 1)
      rw [hle]
      omega
    · have hL' : (S.lv ++ [⟨l, sp, 0, S.tn⟩])[k]? = some L := hL
      by_cases hk2 : k < S.lv.length
      · rw [List.getElem?_append_left hk2] at hL'
        exact h.nd k L hk hL'
      · have hlt := (List.getElem?_eq_some_iff.1 hL').1
        simp at hlt
        have hke : k = S.lv.length := by omega
        subst hke
        rw [List.getElem?_append_right (by omega)] at hL'
        simp at hL'
        rw [← hL']
        exact h.tn htk (fun e => by rw [e] at hk; simp at hk)
set_option maxRecDepth 1000000 in
set_option maxHeartbeats 8000000 in
theorem walkLaw_walk (a : Option Addr) (n c : Nat) (l : List POp) (w : World) (hs : Script w a n c l) :
    Calls Try.prog 6 #[.slice a n c] w fun e w' => e = .returned (.bool true) ∧ Below w.heap.size w w' := by
  have HS := hid hs
  have hl := hs.1.1
  clear hs
  go_enter Try.func6, Try.ntmps6
  go_wp2_with fail
  refine (small_walk a n c l _ HS.out).mono ?_
  rintro e w' ⟨r, rfl, rfl, hr⟩
  cases r with
  | false =>
    go_wp2
    go_ret
    exact ⟨rfl, Below.refl _ _⟩
  | true =>
    have hsm := hr rfl
    clear hr
    obtain ⟨pW, hpW⟩ : ∃ pW, w'.heap.size = pW := ⟨_, rfl⟩
    have hwW : w'.heap.size ≤ pW := by omega
    have hz := zero_walk
    have hzl := zWalk_len
    have hzk := zwalk_ok
    have HZ0 : Hid (Blk (w'.alloc (.cells zWalk.toArray 68)) pW 68 zWalk) := hid (by have := Blk.new w' zWalk 68; rw [hpW] at this; exact this)
    have HLw : Hid (Lw w' pW ⟨[], 0, 0, false, false⟩ (w'.alloc (.cells zWalk.toArray 68))) := hid ⟨nbel w' _, ⟨_, HZ0.out, hzk⟩, zwalk_inv⟩
    generalize zWalk = Z at *
    have HZk := hid hzk
    clear hzk HZ0
    go_wp2_with fail
    generalize w'.alloc (.cells Z.toArray 68) = w1 at HLw ⊢
    go_loopw [21] (fun i wr => ∃ (k : Nat) (S : WS), k ≤ n ∧ i = .int .i64 k ∧ Hid (Lw w' pW S wr)) (fun i _ => n - (intOf i).toNat)
    case atStart => exact ⟨0, _, by omega, rfl, HLw⟩
    case round =>
      clear HLw
      obtain ⟨k, S, hk, rfl, HL⟩ := hrel
      by_cases hlt : k < n
      rotate_left
      · as_aux_lemma =>
        have dk : decide ((k : Int) < (n : Int)) = false := decide_eq_false (by omega)
        clear hz
        go_wp2
        go_ret
        exact ⟨rfl, by have h := HL.out.bel; first | exact h | (rw [hpW] at h; exact h)⟩
      obtain ⟨o, ho, hok, b, off, rfl, hb, c0, c1, c2⟩ := (HS.out.below HL.out.bel).at hlt
      have HOk := hid (HS.out.2 o (List.mem_of_getElem? ho))
      obtain ⟨kind, aa, an, ac, la, ba, bn, bc, lb⟩ := o
      dsimp only at c0 c1 c2
      have dk : decide ((k : Int) < (n : Int)) = true := decide_eq_true (by omega)
      have i1 : (k : Int) < (n : Int) := by omega
      clear ho hok
      go_upto_region 7 with fail
      obtain ⟨pO, hpO⟩ : ∃ pO, wr.heap.size = pO := ⟨_, rfl⟩
      obtain ⟨oc, hoc⟩ : ∃ oc, [Value.int .u8 kind, Value.slice aa an ac, Value.slice ba bn bc] = oc := ⟨_, rfl⟩
      have hbo : Blk (wr.alloc (.cells #[Value.int .u8 kind, Value.slice aa an ac, Value.slice ba bn bc] 71)) pO 71 oc := by have := Blk.new wr [Value.int .u8 kind, Value.slice aa an ac, Value.slice ba bn bc] 71; rw [hpO] at this; rw [← hoc]; exact this
      have HBo := hid hbo
      have HL2 : Hid (Lw w' pW S (wr.alloc (.cells #[Value.int .u8 kind, Value.slice aa an ac, Value.slice ba bn bc] 71))) := hid (by
        obtain ⟨cs, h1, h2⟩ := HL.out.a
        exact ⟨HL.out.bel.alloc HL.out.bel.size _, ⟨cs, h1.alloc _, h2⟩, HL.out.inv⟩)
      have hpWO : pW < pO := by obtain ⟨cs, h1, h2⟩ := HL.out.a; have := h1.lt; omega
      generalize wr.alloc (.cells #[Value.int .u8 kind, Value.slice aa an ac, Value.slice ba bn bc] 71) = w2 at HBo HL2 ⊢
      have Hoc := hid hoc
      clear hbo hoc c0 c1 c2 HL hb
      obtain ⟨cs, hcs, hks⟩ := HL2.out.a
      obtain ⟨pB, hpB⟩ : ∃ pB, w2.heap.size = pB := ⟨_, rfl⟩
      have hpOB : pO < pB := by have := HBo.out.lt; omega
      have HZ2 : Hid (Blk (w2.alloc (.cells Z.toArray 68)) pB 68 Z) := hid (by have := Blk.new w2 Z 68; rw [hpB] at this; exact this)
      have LA : Hid (Z.length = cs.length) := hid (by rw [hks.len, hzl])
      have IA : Hid ((Try.prog.info? 68).map (·.size) = some cs.length) := hid (by rw [hks.len]; exact info_walk)
      have OA := hid hks.one
      have HCs := hid hcs
      have HKs := hid hks
      clear hcs hks
      go_upto_region 8 with (first
        | (refine wpList_load_blk rfl 68 _ rfl pW rfl cs HCs.out _ Try.underlying68 rfl IA.out ?_)
        | (refine wpList_store_blk rfl 68 _ _ rfl pB rfl cs rfl HZ2.out LA.out IA.out OA.out ?_; intro w3 HB3 HU3))
      have HLo : Hid (Lo w' pW pB pO S S oc w3) := hid ⟨⟨(HL2.out.bel.alloc HL2.out.bel.size _).trans (HU3.out.below (by omega) (by have := HL2.out.bel.size; simp; omega)), ⟨cs, (HCs.out.alloc _).upd HU3.out (by omega), HKs.out⟩, ⟨cs, HB3.out, HKs.out⟩, HL2.out.inv, HL2.out.inv⟩, (HBo.out.alloc _).upd HU3.out (by omega)⟩
      clear HB3 HU3 HZ2 LA IA OA HCs HKs HBo HL2 hz hzl HZk
      go_wp2_with fail
      refine (HLo.out.sw.leftA).mono ?_
      rintro e w4 ⟨rfl, hb4⟩
      have HL4 := hid (HLo.out.below hb4)
      clear hb4 HLo
      obtain ⟨lf, hlf⟩ : ∃ lf, leftL S.lv = lf := ⟨_, rfl⟩
      rw [hlf]
      have Hlf := hid hlf
      have hlf1 : lf ≤ 1152 := by have := HL4.out.sw.ia.sum; have := HL4.out.sw.ia.l8; omega
      clear hlf
      have hk0 : (0 : Int) ≤ kind := HOk.out.k0
      have hk1 : kind < 256 := HOk.out.k1
      have o0 : w4.cell? ⟨pO, 0, none⟩ = some (.int .u8 kind) := by rw [HL4.out.bo.cell, ← Hoc.out]; rfl
      go_upto_block 2 with fail
      have HRa : Hid (ByteRow w' aa an ac la) := hid HOk.out.ra
      have hag : 0 < an → ∀ b off, aa = some ⟨b, off, none⟩ → b ≠ pW := fun h b2 off2 e => by
        obtain ⟨_, _, _, b3, off3, e3, hb3, _⟩ := HRa.out.get h
        rw [e] at e3
        cases e3
        omega
      have Hag := hid hag
      clear hag
      go_cut [8, 9, 10, 11, 12, 13, 14, 15] from 29 to 146 (fun v8 v9 v10 v11 v12 v13 v14 v15 wc => ∃ S', Hid (Lw w' pW S' wc))
      case first =>
        by_cases k8 : kind = 8
        · as_aux_lemma =>
          subst k8
          obtain ⟨cs, hcs, hks⟩ := HL4.out.sw.a
          have HSt := hid (start_walk pW 68 cs S w4 hcs hks aa an ac la (HRa.out.below HL4.out.sw.bel) Hag.out)
          have o1 : w4.cell? ⟨pO, 1, none⟩ = some (.slice aa an ac) := by rw [HL4.out.bo.cell, ← Hoc.out]; rfl
          clear hcs hks
          go_wp2_with fail
          refine (HSt.out).mono ?_
          rintro e w5 hp5
          obtain ⟨⟨ab, code, ds, S5, rfl, hd5, hk5, hl5, hs5, ht5, hc5⟩, hu5⟩ := hp5
          have HL5 : Hid (Lw w' pW S5 w5) := hid ⟨HL4.out.sw.bel.trans (hu5.below hwW HL4.out.sw.bel.size), ⟨ds, hd5, hk5⟩, start_inv hl5 hs5 ht5 hc5⟩
          have HLk := hid (HL5.out.links)
          have HStp := hid (HL5.out.steps)
          rw [hl5] at HLk
          rw [hs5] at HStp
          have hem : code ≠ 0 → S5.lv.isEmpty = true := fun h => by
            rcases hc5 with ⟨_, h2⟩ | ⟨h2, _⟩
            · rw [h2]; rfl
            · exact absurd h2 h
          clear HSt hd5 hk5 hl5 hs5 ht5 hc5 hu5
          by_cases hc : code = 0
          · subst hc
            clear hem
            go_wp2_with fail
            refine (HLk.out).mono ?_
            rintro e w6 ⟨rfl, rfl⟩
            go_wp2_with fail
            refine (HStp.out).mono ?_
            rintro e w7 ⟨rfl, rfl⟩
            go_wp2_with fail
            go_meet
            case rel => exact ⟨S5, HL5⟩
          · have dc : (code != 0) = true := by simpa using hc
            have HDn := hid (HL5.out.done)
            rw [hem hc] at HDn
            clear hem
            go_wp2_with fail
            refine (HDn.out).mono ?_
            rintro e w5' ⟨rfl, rfl⟩
            go_wp2_with fail
            refine (HLk.out).mono ?_
            rintro e w6 ⟨rfl, rfl⟩
            go_wp2_with fail
            refine (HStp.out).mono ?_
            rintro e w7 ⟨rfl, rfl⟩
            go_wp2_with fail
            go_meet
            case rel => exact ⟨S5, HL5⟩
        have q8 : (kind == 8) = false := by simpa using k8
        by_cases k9 : kind = 9
        · as_aux_lemma =>
          subst k9
          obtain ⟨cs, hcs, hks⟩ := HL4.out.sw.a
          obtain ⟨C, bb, S2, la', nd, HF, hN⟩ := next_any hks HL4.out.sw.ia
          have HPk := hid (hN pW 68 cs w4 hcs hks).2
          have hlz := left_zero hks
          have HNx : Hid (∀ w5, Lo w' pW pB pO S S oc w5 → Calls Try.prog 37 #[.pointer (some ⟨pW, 0, none⟩)] w5 (fun e w'' => NextP pW 68 C bb S2 w5 e w'')) := hid (fun w5 h => by obtain ⟨c2, h1, h2⟩ := h.sw.a; exact (hN pW _ c2 w5 h1 h2).1)
          have HFF := hid HF
          have hC37 := HF.len
          have hneq := HF.neq
          have I2 : Hid ((Try.prog.info? 40).map (·.size) = some C.length) := hid (by rw [hC37]; exact info_comp)
          have L2 : Hid ((compC [] 0 0 false false).length = C.length) := hid (by rw [hC37]; rfl)
          have hbl : decide (0 < lf) = bb := by
            rw [HF.be, ← Hlf.out, Bool.eq_iff_iff]
            simp
            rw [← hlz]
            omega
          have hbl2 : decide ((0 : Int) < (lf : Int)) = bb := by rw [← hbl, Bool.eq_iff_iff]; simp
          clear hcs hks hN HF hlz
          go_wp2_with fail
          refine (HPk.out).mono ?_
          rintro e w5 ⟨rfl, hb5⟩
          have HL5 := hid (HL4.out.below hb5)
          clear hb5 HPk o0
          obtain ⟨q, hq⟩ : ∃ q, w5.heap.size = q := ⟨_, rfl⟩
          have hbn := Blk.new w5 (compC [] 0 0 false false) 40
          rw [hq] at hbn
          have HBn := hid hbn
          clear hbn
          go_upto_region 18 with (refine wpList_store_blk rfl 40 _ _ rfl q rfl C rfl HBn.out L2.out I2.out HFF.out.one ?_; intro w6 HB6 HU6)
          have hqB : pB < q := by obtain ⟨_, h, _⟩ := HL5.out.sw.b; have := h.lt; omega
          have HL6 : Hid (Lo w' pW pB pO S S oc w6) := hid ⟨(HL5.out.sw.below (nbel w5 _)).upd HU6.out (by omega) (by omega) (by omega), (HL5.out.bo.alloc _).upd HU6.out (by omega)⟩
          clear HU6 HBn HL5
          go_wp2_with fail
          refine (HNx.out _ HL6.out).mono ?_
          rintro e w7 hp7
          obtain ⟨rfl, hu7, hd7⟩ := hp7
          have HL7 : Hid (Lo w' pW pB pO S2 S oc w7) := hid ⟨HL6.out.sw.nextA hu7 hd7 HFF.out.inv hwW (by omega), HL6.out.bo.upd hu7 (by omega)⟩
          have HB7 := hid (HB6.out.upd hu7 (by omega))
          clear hu7 hd7 HNx HL6 HB6
          obtain ⟨r, hr⟩ : ∃ r, w7.heap.size = r := ⟨_, rfl⟩
          have hbn := Blk.new w7 (compC [] 0 0 false false) 40
          rw [hr] at hbn
          have HBn := hid hbn
          clear hbn
          go_upto_region 19 with (refine wpList_store_blk rfl 40 _ _ rfl r rfl C rfl HBn.out L2.out I2.out HFF.out.one ?_; intro w8 HB8 HU8)
          have hqr : q < r := by have := HB7.out.lt; omega
          have HL8 : Hid (Lo w' pW pB pO S2 S oc w8) := hid ⟨(HL7.out.sw.below (nbel w7 _)).upd HU8.out (by omega) (by omega) (by omega), (HL7.out.bo.alloc _).upd HU8.out (by omega)⟩
          have HBq := hid ((HB7.out.alloc _).upd HU8.out (by omega))
          clear HU8 HBn HL7 HB7
          cases bb with
          | false =>
            as_aux_lemma =>
            go_upto_region 21 with (first
              | (refine wpList_load_blk_w rfl 40 _ rfl r rfl C HB8.out _ Try.underlying40 rfl I2.out ?_)
              | (refine wpList_load_blk_w rfl 40 _ rfl q rfl C HBq.out _ Try.underlying40 rfl I2.out ?_))
            go_quiet (fail)
            have HL9 := hid (HL8.out.below (Drew.below ⟨nq, rfl⟩ _))
            generalize w8.drewN nq = w9 at HL9 ⊢
            go_wp2_with fail
            go_meet
            case rel => exact ⟨S2, hid HL9.out.lw⟩
          | true =>
            as_aux_lemma =>
            go_upto_region 21 with (first
              | (refine wpList_load_blk_w rfl 40 _ rfl r rfl C HB8.out _ Try.underlying40 rfl I2.out ?_)
              | (refine wpList_load_blk_w rfl 40 _ rfl q rfl C HBq.out _ Try.underlying40 rfl I2.out ?_))
            obtain ⟨hst2, hlf2⟩ := HFF.out.st rfl
            rw [Hlf.out] at hlf2
            have hla := HFF.out.last rfl
            have hndd := HFF.out.ndir rfl
            obtain ⟨X, W, hT, hI⟩ := class_mk (fun wx => Lo w' pW pB pO S2 S oc wx ∧ Blk wx r 40 C)
            have HCl : Hid (∀ x w', Below (W x).heap.size (W x) w' → ∃ y, w' = W y) := hid (fun x w' hb => hI _ ⟨(hT x).1.below hb, (hT x).2.below hb⟩)
            have H0 : Hid (∃ x, w8.drew = W x) := hid (hI _ ⟨HL8.out.below (Drew.below ⟨1, rfl⟩ _), HB8.out.below (Drew.below ⟨1, rfl⟩ _)⟩)
            have hne : Nonempty X := ⟨H0.out.choose⟩
            have e36 : ∀ x, (W x).cell? ⟨r, 36, none⟩ = some (.bool la') := fun x => by rw [(hT x).2.cell]; exact HFF.out.c36
            have e35 : ∀ x, (W x).cell? ⟨r, 35, none⟩ = some (.bool nd) := fun x => by rw [(hT x).2.cell]; exact HFF.out.c35
            have HLf : Hid (∀ x, Calls Try.prog 31 #[.pointer (some ⟨pW, 0, none⟩)] (W x) fun e w' => e = .returned (.int .i64 (leftL S2.lv : Int)) ∧ Below (W x).heap.size (W x) w') := hid (fun x => (hT x).1.sw.leftA)
            have HDn : Hid (∀ x, Calls Try.prog 33 #[.pointer (some ⟨pW, 0, none⟩)] (W x) fun e w' => e = .returned (.bool la') ∧ w' = W x) := hid (fun x => by rw [hla]; exact (hT x).1.sw.doneA)
            obtain ⟨lf2, hl2⟩ : ∃ lf2, leftL S2.lv = lf2 := ⟨_, rfl⟩
            rw [hl2] at HLf hlf2
            have q1 : ((lf2 : Int) != (lf : Int) - 1) = false := by simp; omega
            have HTT := hid hT
            clear hT hI hl2 hla
            have hcase : (la' = true) ∨ (la' = false ∧ nd = true) := by cases la' with
              | true => exact .inl rfl
              | false => exact .inr ⟨rfl, hndd rfl⟩
            clear hndd
            refine wp_region_class W (by kernel_rfl) (by kernel_rfl) H0.out ?_
            have HSA : Hid (∀ w, Lo w' pW pB pO S2 S oc w → Calls Try.prog 35 #[.pointer (some ⟨pW, 0, none⟩)] w fun e w' => e = .returned (.int .i64 ((S.steps : Int) + 1)) ∧ w' = w) := hid (fun w h => by have := h.sw.stepsA; rw [hst2] at this; simpa using this)
            have HSB : Hid (∀ w, Lo w' pW pB pO S2 S oc w → Calls Try.prog 35 #[.pointer (some ⟨pB, 0, none⟩)] w fun e w' => e = .returned (.int .i64 (S.steps : Int)) ∧ w' = w) := hid (fun w h => h.sw.stepsB)
            have hs0 : S.steps ≤ 1152 := by have := HL4.out.sw.ia.sum; have := HL4.out.sw.ia.l8; omega
            clear hst2
            rcases hcase with rfl | ⟨rfl, rfl⟩
            · as_aux_lemma =>
              try simp only [Act.put]
              repeat (go_big_quiet_step (first
                | (go_at_call 31; with_reducible exact Calls.class_of HCl.out (HLf.out _))
                | (go_at_call 33; with_reducible exact Calls.class_same (HDn.out _))))
              refine wpQuiet_nil ?_
              intro x
              have HL9 := hid (HTT.out x).1
              generalize W x = w9 at HL9 ⊢
              clear e36 e35 HLf HDn HTT HCl H0
              go_wp2_with fail
              refine (HSA.out _ HL9.out).mono ?_
              rintro e w10 ⟨rfl, rfl⟩
              go_wp2_with fail
              refine (HSB.out _ HL9.out).mono ?_
              rintro e w11 ⟨rfl, rfl⟩
              go_wp2_with fail
              go_meet
              case rel => exact ⟨S2, hid HL9.out.lw⟩
            · as_aux_lemma =>
              try simp only [Act.put]
              repeat (go_big_quiet_step (first
                | (go_at_call 31; with_reducible exact Calls.class_of HCl.out (HLf.out _))
                | (go_at_call 33; with_reducible exact Calls.class_same (HDn.out _))))
              refine wpQuiet_nil ?_
              intro x
              have HL9 := hid (HTT.out x).1
              generalize W x = w9 at HL9 ⊢
              clear e36 e35 HLf HDn HTT HCl H0
              go_wp2_with fail
              refine (HSA.out _ HL9.out).mono ?_
              rintro e w10 ⟨rfl, rfl⟩
              go_wp2_with fail
              refine (HSB.out _ HL9.out).mono ?_
              rintro e w11 ⟨rfl, rfl⟩
              go_wp2_with fail
              go_meet
              case rel => exact ⟨S2, hid HL9.out.lw⟩
        have q9 : (kind == 9) = false := by simpa using k9
        by_cases k10 : kind = 10
        · as_aux_lemma =>
          subst k10
          obtain ⟨cs, hcs, hks⟩ := HL4.out.sw.a
          have HEx := hid (expand_walk pW 68 cs S w4 hcs hks HL4.out.sw.ia aa an ac la (HRa.out.below HL4.out.sw.bel) Hag.out)
          have o1 : w4.cell? ⟨pO, 1, none⟩ = some (.slice aa an ac) := by rw [HL4.out.bo.cell, ← Hoc.out]; rfl
          clear hcs hks
          go_wp2_with fail
          refine (HEx.out).mono ?_
          rintro e w5 hp5
          obtain ⟨⟨ab, code, ds, S5, rfl, hd5, hk5, hc5⟩, hu5⟩ := hp5
          have h2 : (code ≠ 0 ∧ S5 = S ∧ (code = 9 → S.links = 8)) ∨ (code = 0 ∧ S5.links = S.links + 1 ∧ WInv S5 ∧ lf ≤ leftL S5.lv) := by
            rcases hc5 with ⟨_, h3, h4⟩ | ⟨_, h3, h4, h5⟩ | ⟨_, _, h3, h4, _, h5⟩ | ⟨h3, h4, h5, sp, h6, h7⟩
            · exact .inl ⟨by omega, h4, fun e => by omega⟩
            · exact .inl ⟨by omega, h5, fun _ => h3⟩
            · exact .inl ⟨h3, h5, fun e => absurd e h4⟩
            · obtain ⟨i1, i2⟩ := exp_inv (l := la) HL4.out.sw.ia h3 h4 h6
              refine .inr ⟨h5, by rw [h7], by rw [h7]; exact i1, ?_⟩
              rw [h7, ← Hlf.out]
              exact i2
          clear HEx hc5 o0 o1
          rcases h2 with ⟨hc0, rfl, hc9⟩ | ⟨rfl, hlk5, hin5, hlf5⟩
          · as_aux_lemma =>
            have HL5 : Hid (Lo w' pW pB pO S5 S5 oc w5) := hid ⟨HL4.out.sw.nextA hu5 ⟨ds, hd5, hk5⟩ HL4.out.sw.ia hwW (by omega), HL4.out.bo.upd hu5 (by omega)⟩
            clear hu5 hd5 hk5
            obtain ⟨cA, hA, kA⟩ := HL5.out.sw.a
            obtain ⟨cB, hB, kB⟩ := HL5.out.sw.b
            have HSm := hid (fun w => sameWalk_walk cA cB S5 kA kB HL5.out.sw.ia w)
            have IA : Hid ((Try.prog.info? 68).map (·.size) = some cA.length) := hid (by rw [kA.len]; exact info_walk)
            have IB : Hid ((Try.prog.info? 68).map (·.size) = some cB.length) := hid (by rw [kB.len]; exact info_walk)
            have HA := hid hA
            have HB := hid hB
            have q0 : (code != 0) = true := by simpa using hc0
            have q0' : (code == 0) = false := by simpa using hc0
            clear hA hB kA kB
            by_cases c9 : code = 9
            · have h8 := hc9 c9
              subst c9
              have Hl8 := hid h8
              clear hc9 h8 q0 q0' hc0
              go_wp2_with (first
                | (refine wpList_load_blk_w rfl 68 _ rfl pW rfl cA HA.out _ Try.underlying68 rfl IA.out ?_)
                | (refine wpList_load_blk_w rfl 68 _ rfl pB rfl cB HB.out _ Try.underlying68 rfl IB.out ?_))
              refine (HSm.out _).mono ?_
              rintro e w7 ⟨rfl, hb7⟩
              have HL7 := hid (HL5.out.below hb7)
              have HLk := hid HL7.out.sw.linksB
              rw [Hl8.out] at HLk
              clear hb7 HSm
              go_wp2_with fail
              refine (HLk.out).mono ?_
              rintro e w8 ⟨rfl, rfl⟩
              go_wp2_with fail
              go_meet
              case rel => exact ⟨S5, hid HL7.out.lw⟩
            · have q9' : (code == 9) = false := by simpa using c9
              go_wp2_with (first
                | (refine wpList_load_blk_w rfl 68 _ rfl pW rfl cA HA.out _ Try.underlying68 rfl IA.out ?_)
                | (refine wpList_load_blk_w rfl 68 _ rfl pB rfl cB HB.out _ Try.underlying68 rfl IB.out ?_))
              refine (HSm.out _).mono ?_
              rintro e w7 ⟨rfl, hb7⟩
              have HL7 := hid (HL5.out.below hb7)
              clear hb7 HSm
              go_wp2_with fail
              go_meet
              case rel => exact ⟨S5, hid HL7.out.lw⟩
          · as_aux_lemma =>
            have HL5 : Hid (Lo w' pW pB pO S5 S oc w5) := hid ⟨HL4.out.sw.nextA hu5 ⟨ds, hd5, hk5⟩ hin5 hwW (by omega), HL4.out.bo.upd hu5 (by omega)⟩
            have HLkA := hid HL5.out.sw.linksA
            have HLkB := hid HL5.out.sw.linksB
            have HLf := hid HL5.out.sw.leftA
            rw [hlk5] at HLkA
            obtain ⟨lk, hlk⟩ : ∃ lk, S.links = lk := ⟨_, rfl⟩
            rw [hlk] at HLkA HLkB
            have hl8 : lk ≤ 8 := by rw [← hlk]; exact HL4.out.sw.ia.l8
            obtain ⟨lf5, hl5⟩ : ∃ lf5, leftL S5.lv = lf5 := ⟨_, rfl⟩
            rw [hl5] at HLf hlf5
            have q1 : decide ((lf5 : Int) < (lf : Int)) = false := decide_eq_false (by omega)
            have q2 : decide (lf5 < lf) = false := decide_eq_false (by omega)
            clear hu5 hd5 hk5 hlk5 hin5 hl5 hlk
            go_wp2_with fail
            refine (HLkA.out).mono ?_
            rintro e w6 ⟨rfl, rfl⟩
            go_wp2_with fail
            refine (HLkB.out).mono ?_
            rintro e w7 ⟨rfl, rfl⟩
            go_wp2_with fail
            refine (HLf.out).mono ?_
            rintro e w8 ⟨rfl, hb8⟩
            have HL8 := hid (HL5.out.below hb8)
            clear hb8
            go_wp2_with fail
            go_meet
            case rel => exact ⟨S5, hid HL8.out.lw⟩
        have q10 : (kind == 10) = false := by simpa using k10
        by_cases kpl : kind = 11 ∨ kind = 12
        · rcases kpl with rfl | rfl
          · as_aux_lemma =>
            obtain ⟨cs, hcs, hks⟩ := HL4.out.sw.a
            obtain ⟨C, b, S2, la', nd, HF, hN⟩ := next_any hks HL4.out.sw.ia
            have HPk := hid (hN pW 68 cs w4 hcs hks).2
            clear hcs hks hN HF
            go_wp2_with fail
            refine (HPk.out).mono ?_
            rintro e w5 ⟨rfl, hb5⟩
            have HL5 := hid (HL4.out.below hb5)
            clear hb5 HPk o0
            obtain ⟨cs5, hc5, hk5⟩ := HL5.out.sw.a
            have HRs := hid (rest_walk pW 68 cs5 S w5 hc5 hk5 HL5.out.sw.ia.d9)
            clear hc5 hk5
            go_wp2_with fail
            refine (HRs.out).mono ?_
            rintro e w6 ⟨v, rfl, ha6⟩
            have HL6 := hid (HL5.out.below ha6.bel)
            clear ha6 HRs HL5
            obtain ⟨cA, hA, kA⟩ := HL6.out.sw.a
            obtain ⟨cB, hB, kB⟩ := HL6.out.sw.b
            have HSm := hid (fun w => sameWalk_walk cA cB S kA kB HL6.out.sw.ia w)
            have IA : Hid ((Try.prog.info? 68).map (·.size) = some cA.length) := hid (by rw [kA.len]; exact info_walk)
            have IB : Hid ((Try.prog.info? 68).map (·.size) = some cB.length) := hid (by rw [kB.len]; exact info_walk)
            have HA := hid hA
            have HB := hid hB
            clear hA hB kA kB
            go_wp2_with (first
              | (refine wpList_load_blk rfl 68 _ rfl pW rfl cA HA.out _ Try.underlying68 rfl IA.out ?_)
              | (refine wpList_load_blk rfl 68 _ rfl pB rfl cB HB.out _ Try.underlying68 rfl IB.out ?_))
            refine (HSm.out _).mono ?_
            rintro e w7 ⟨rfl, hb7⟩
            have HL7 := hid (HL6.out.below hb7)
            clear hb7 HSm
            go_wp2_with fail
            go_meet
            case rel => exact ⟨S, hid HL7.out.lw⟩
          · as_aux_lemma =>
            obtain ⟨cs, hcs, hks⟩ := HL4.out.sw.a
            obtain ⟨C, b, S2, la', nd, HF, hN⟩ := next_any hks HL4.out.sw.ia
            have HPk := hid (hN pW 68 cs w4 hcs hks).2
            clear hcs hks hN HF
            go_wp2_with fail
            refine (HPk.out).mono ?_
            rintro e w5 ⟨rfl, hb5⟩
            have HL5 := hid (HL4.out.below hb5)
            clear hb5 HPk o0
            obtain ⟨cs5, hc5, hk5⟩ := HL5.out.sw.a
            have HRs := hid (rest_walk pW 68 cs5 S w5 hc5 hk5 HL5.out.sw.ia.d9)
            clear hc5 hk5
            go_wp2_with fail
            refine (HRs.out).mono ?_
            rintro e w6 ⟨v, rfl, ha6⟩
            have HL6 := hid (HL5.out.below ha6.bel)
            clear ha6 HRs HL5
            obtain ⟨cA, hA, kA⟩ := HL6.out.sw.a
            obtain ⟨cB, hB, kB⟩ := HL6.out.sw.b
            have HSm := hid (fun w => sameWalk_walk cA cB S kA kB HL6.out.sw.ia w)
            have IA : Hid ((Try.prog.info? 68).map (·.size) = some cA.length) := hid (by rw [kA.len]; exact info_walk)
            have IB : Hid ((Try.prog.info? 68).map (·.size) = some cB.length) := hid (by rw [kB.len]; exact info_walk)
            have HA := hid hA
            have HB := hid hB
            clear hA hB kA kB
            go_wp2_with (first
              | (refine wpList_load_blk rfl 68 _ rfl pW rfl cA HA.out _ Try.underlying68 rfl IA.out ?_)
              | (refine wpList_load_blk rfl 68 _ rfl pB rfl cB HB.out _ Try.underlying68 rfl IB.out ?_))
            refine (HSm.out _).mono ?_
            rintro e w7 ⟨rfl, hb7⟩
            have HL7 := hid (HL6.out.below hb7)
            clear hb7 HSm
            go_wp2_with fail
            go_meet
            case rel => exact ⟨S, hid HL7.out.lw⟩
        as_aux_lemma =>
        have q11 : (kind == 11) = false := by simp; omega
        have q12 : (kind == 12) = false := by simp; omega
        go_wp2_with fail
        go_meet
        case rel => exact ⟨S, hid HL4.out.lw⟩
      case rest =>
      as_aux_lemma =>
      obtain ⟨S6, HL6⟩ := hcut
      obtain ⟨cs6, hc6, hk6⟩ := HL6.out.a
      have hl8 := HL6.out.inv.l8
      have hsum := HL6.out.inv.sum
      have hle := left_empty hk6
      have HLk := hid HL6.out.links
      have HSt := hid HL6.out.steps
      have HLf : Hid (∀ w, Lw w' pW S6 w → Calls Try.prog 31 #[.pointer (some ⟨pW, 0, none⟩)] w fun e w' => e = .returned (.int .i64 (leftL S6.lv : Int)) ∧ Below w.heap.size w w') := hid (fun w h => h.left)
      have HDn : Hid (∀ w, Lw w' pW S6 w → Calls Try.prog 33 #[.pointer (some ⟨pW, 0, none⟩)] w fun e w' => e = .returned (.bool S6.lv.isEmpty) ∧ w' = w) := hid (fun w h => h.done)
      obtain ⟨lf6, hlf6⟩ : ∃ lf6, leftL S6.lv = lf6 := ⟨_, rfl⟩
      obtain ⟨em6, hem6⟩ : ∃ em6, S6.lv.isEmpty = em6 := ⟨_, rfl⟩
      obtain ⟨st6, hst6⟩ : ∃ st6, S6.steps = st6 := ⟨_, rfl⟩
      obtain ⟨lk6, hlk6⟩ : ∃ lk6, S6.links = lk6 := ⟨_, rfl⟩
      rw [hlf6] at HLf hle hsum
      rw [hem6] at HDn hle
      rw [hst6] at HSt hsum
      rw [hlk6] at HLk hl8 hsum
      have d1 : decide (8 < (lk6 : Int)) = false := decide_eq_false (by omega)
      have d2 : decide (1152 < (st6 : Int) + (lf6 : Int)) = false := decide_eq_false (by omega)
      clear hc6 hk6 hlf6 hem6 hst6 hlk6 o0
      go_wp2_with fail
      refine (HLk.out).mono ?_
      rintro e w7 ⟨rfl, rfl⟩
      go_wp2_with fail
      refine (HSt.out).mono ?_
      rintro e w8 ⟨rfl, rfl⟩
      go_wp2_with fail
      refine (HLf.out _ HL6.out).mono ?_
      rintro e w9 ⟨rfl, hb9⟩
      have HL9 := hid (HL6.out.below hb9)
      clear hb9
      go_wp2_with fail
      refine (HDn.out _ HL9.out).mono ?_
      rintro e w10 ⟨rfl, rfl⟩
      go_wp2_with fail
      refine (HLf.out _ HL9.out).mono ?_
      rintro e w11 ⟨rfl, hb11⟩
      have HL11 := hid (HL9.out.below hb11)
      clear hb11
      go_wp2
      exact ⟨⟨k + 1, S6, by omega, by go_num, HL11⟩, by simp [intOf]; omega⟩
end Go.Proofs.Qxb6500891a
