/- The law EveryByteStringDecodes. -/
import Derived.Test.Qxb6500889aDoorMuEc
namespace Go.Proofs.Qxb6500889aDoor
open Go.RowKit
set_option linter.unusedSimpArgs false
set_option linter.unusedVariables false
theorem wrap8N (x : Int) : ∃ t : Nat, IntKind.u8.wrap x = (t : Int) ∧ t < 256 := by
  rw [IntKind.wrap_u8]
  exact ⟨(x % 256).toNat, by omega, by omega⟩
theorem wpList_bs7b {ops : Array Oper} {rest : List Oper} {o : Oper} {a : Act} {w : World} {Q : Exit → Act → World → Prop} (hg : o.guard = none) (x0 x1 x2 x3 x4 x5 x6 : Operand) (ho : o.op = .buildSlice 57 7 #[(0, x0), (1, x1), (2, x2), (3, x3), (4, x4), (5, x5), (6, x6)])
    (v0 v1 v2 v3 v4 v5 v6 : Int) (h0 : a.eval x0 = .int .u8 v0) (h1 : a.eval x1 = .int .u8 v1) (h2 : a.eval x2 = .int .u8 v2) (h3 : a.eval x3 = .int .u8 v3) (h4 : a.eval x4 = .int .u8 v4) (h5 : a.eval x5 = .int .u8 v5) (h6 : a.eval x6 = .int .u8 v6)
    (h : ∀ g w', w.heap.size = g → w.alloc (.cells #[.int .u8 v0, .int .u8 v1, .int .u8 v2, .int .u8 v3, .int .u8 v4, .int .u8 v5, .int .u8 v6] 5) = w' → wpList Tryd.prog ops Q rest (a.put o.dst (.slice (some ⟨g, 0, none⟩) 7 7)) w') : wpList Tryd.prog ops Q (o :: rest) a w := by
  obtain ⟨i, hi, he⟩ := Option.map_eq_some_iff.1 info_byt
  simp only [Prod.mk.injEq] at he
  obtain ⟨e1, e2, e3⟩ := he
  refine wpList_buildSlice hg 57 5 7 _ ho #[.int .u8 v0, .int .u8 v1, .int .u8 v2, .int .u8 v3, .int .u8 v4, .int .u8 v5, .int .u8 v6] i (.int .u8 0) Tryd.underlying57 hi e1 (by rw [e2]; decide) (by rw [e2]; decide) ?_ (h _ _ rfl rfl)
  rw [e2]
  simp only [List.map_toArray, List.map_cons, List.map_nil, h0, h1, h2, h3, h4, h5, h6]
  kernel_rfl
theorem stopHereE {p : Prop} (h : True → p) : p := h trivial
theorem tidy_ok {o : OpP} (h : OpB o) : OpB (tidy o) := by
  unfold tidy
  split
  · rename_i hlt
    have hm : ∀ x ∈ [o.a, o.b, o.c].take (ari (o.k % 9)), x < 18446744073709551616 := fun x hx => by
      have := List.mem_of_mem_take hx
      simp only [List.mem_cons, List.not_mem_nil, or_false] at this
      rcases this with rfl | rfl | rfl
      · exact h.a
      · exact h.b
      · exact h.c
    exact ⟨by show o.ac % 7 < 256; omega, by show o.k % 9 < 256; omega, getD_lt hm 0, getD_lt hm 1, getD_lt hm 2⟩
  · exact ⟨by dsimp only; omega, by dsimp only; omega, by dsimp only; omega, by dsimp only; omega, by dsimp only; omega⟩
set_option maxRecDepth 1000000 in
set_option maxHeartbeats 16000000 in
theorem every_walk (a : Option Addr) (n c : Nat) (s : List OpP) (w : World) (mg : Nat) (hs : Script w a n c s) (hg : ArG w) (hag : AgG w mg) :
    Calls Tryd.prog 4 #[.slice a n c] w fun e w' => e = .returned (.bool true) ∧ Below w.heap.size w w' := by
  have HSm := hid (fun w => small_walk a n c w)
  have HS := hid hs
  have HG := hid hg
  have HA := hid hag
  have Io : Hid ((Tryd.prog.info? 31).map (·.size) = some 5) := hid info_op
  have Hlen : Hid (s.length = n) := hid hs.1.len
  have HOb : Hid (∀ o ∈ s, OpB o) := hid hs.2
  have HDe : Hid (dec (enc s) = s.map tidy) := hid (dec_enc s hs.2)
  clear hs hg hag
  by_cases hsm : n ≤ 65536
  rotate_left
  · as_aux_lemma =>
    rw [decide_eq_false hsm] at HSm
    go_enter Tryd.func4, Tryd.ntmps4
    go_wp2_with (go_at_call 5; refine (HSm.out _).mono ?_; rintro e w' ⟨rfl, rfl⟩)
    go_ret
    exact ⟨rfl, Below.refl _ _⟩
  rw [decide_eq_true hsm] at HSm
  have HEl : Hid ((enc s).length ≤ 100000000) := hid (by have := enc_len s; rw [Hlen.out] at this; omega)
  have HEn : Hid (∀ wy, Below w.heap.size w wy → Calls Tryd.prog 16 #[.slice a n c] wy fun e w' => ∃ v, e = .returned v ∧ EO wy w' v (enc s)) := hid (fun wy hy => encode_walk (HS.out.below hy) (HG.out.below hy) (by omega))
  go_enter Tryd.func4, Tryd.ntmps4
  go_wp2_with (go_at_call 5; refine (HSm.out _).mono ?_; rintro e w' ⟨rfl, rfl⟩)
  refine (HEn.out _ (Below.refl _ _)).mono ?_
  rintro e w1 ⟨v1, rfl, hE1⟩
  obtain ⟨a1, c1, rfl, hrd1⟩ := hE1.rd (enc_by s) (by have := HEl.out; omega)
  have HB1 := hid hE1.bel
  have HDc := hid (decode_walk hrd1 (HG.out.below hE1.bel))
  rw [HDe.out] at HDc
  generalize (enc s).length = n1 at HDc
  clear hE1 hrd1 HSm
  go_wp2_with fail
  refine HDc.out.mono ?_
  rintro e w2 ⟨v3, rfl, hD⟩
  obtain ⟨a3, c3, rfl, hsc⟩ := hD.script (by rw [List.length_map, Hlen.out]; omega) (fun o ho => by obtain ⟨o', h1, rfl⟩ := List.mem_map.1 ho; exact tidy_ok (HOb.out o' h1))
  have HS3 := hid hsc
  rw [List.length_map, Hlen.out] at HS3
  have HB2 := hid (HB1.out.trans (hD.bel.mono HB1.out.size))
  simp only [List.length_map, Hlen.out]
  clear hD hsc HDc HB1
  go_wp2_with fail
  go_loopw [24] (fun v wr => ∃ i : Nat, i ≤ n ∧ v = .int .i64 (i : Int) ∧ Hid (Below w2.heap.size w2 wr)) (fun v _ => n - (intOf v).toNat)
  case atStart => exact ⟨0, by omega, rfl, hid (Below.refl _ _)⟩
  case round =>
  obtain ⟨i, hi, rfl, HBl⟩ := hrel
  have HBw : Hid (Below w'.heap.size w' wr) := hid (HB2.out.trans (HBl.out.mono HB2.out.size))
  by_cases hin : i < n
  · as_aux_lemma =>
    have di : decide ((i : Int) < (n : Int)) = true := decide_eq_true (by omega)
    have ii : (i : Int) < (n : Int) := by omega
    obtain ⟨o, ho, hok, b, off, rfl, hb, c0, c1, c2, c3', c4⟩ := (HS.out.below HBw.out).at hin
    obtain ⟨ot, hot, _, b', off', rfl, hb', _⟩ := (HS3.out.below HBl.out).at hin
    have hoe : ot = tidy o := by rw [List.getElem?_map, ho] at hot; exact (Option.some.inj hot).symm
    have Hc3 : Hid (∀ wy, Below w2.heap.size w2 wy → wy.cell? ⟨b', off' + i * 5, none⟩ = some (.int .u8 (ot.ac : Int)) ∧ wy.cell? ⟨b', off' + i * 5 + 1, none⟩ = some (.int .u8 (ot.k : Int)) ∧ wy.cell? ⟨b', off' + i * 5 + 2, none⟩ = some (.int .u64 (ot.a : Int)) ∧ wy.cell? ⟨b', off' + i * 5 + 3, none⟩ = some (.int .u64 (ot.b : Int)) ∧ wy.cell? ⟨b', off' + i * 5 + 4, none⟩ = some (.int .u64 (ot.c : Int))) := hid (fun wy hy => by
      obtain ⟨o2, ho2, _, b2, off2, e2, _, q⟩ := (HS3.out.below hy).at hin
      rw [hot] at ho2
      cases ho2
      cases e2
      exact q)
    obtain ⟨ob, hob⟩ : ∃ p, wr.heap.size = p := ⟨_, rfl⟩
    have HOk := hid hok
    clear ho hok hot hb'
    go_upto_region 9 with fail
    obtain ⟨w5, hw5⟩ : ∃ w2, wr.alloc (.cells #[.int .u8 (o.ac : Int), .int .u8 (o.k : Int), .int .u64 (o.a : Int), .int .u64 (o.b : Int), .int .u64 (o.c : Int)] 31) = w2 := ⟨_, rfl⟩
    have HB5 : Hid (Blk w5 ob 31 (opC o) ∧ Below w2.heap.size w2 w5) := hid ⟨by rw [← hw5, ← hob]; exact Blk.new wr (opC o) _, HBl.out.trans ((show Below wr.heap.size wr w5 by rw [← hw5]; exact nbel _ _).mono HBl.out.size)⟩
    simp only [hw5]
    clear hw5 hob c0 c1 c2 c3' c4 hb
    have HTd : Hid (∀ wy, Below w2.heap.size w2 wy → Calls Tryd.prog 17 #[.agg (opC o).toArray] wy fun e w' => e = .returned (.agg (opC ot).toArray) ∧ Below wy.heap.size wy w') := hid (fun wy hy => by rw [hoe]; exact tidied_walk HOk.out (HA.out.below (HB2.out.trans (hy.mono HB2.out.size))))
    have hne : ∀ w9 : World, (binOp .neq 31 (.agg #[.int .u8 (ot.ac : Int), .int .u8 (ot.k : Int), .int .u64 (ot.a : Int), .int .u64 (ot.b : Int), .int .u64 (ot.c : Int)]) (.agg #[.int .u8 (ot.ac : Int), .int .u8 (ot.k : Int), .int .u64 (ot.a : Int), .int .u64 (ot.b : Int), .int .u64 (ot.c : Int)])).run Tryd.prog w9 = .ok (.bool false) w9 := fun w9 => neq_op ot w9
    clear hoe
    refine wp_region_heavy (fun wy => Below w2.heap.size w2 wy ∧ Blk wy ob 31 (opC o)) 7 [0, 1, 2, 3, 4] [5, 6] rfl (by kernel_rfl) (by kernel_rfl) (fun d _ _ _ _ h => by cases d <;> exact h) ⟨HB5.out.2.trans ((Drew.below ⟨1, rfl⟩ _).mono HB5.out.2.size), HB5.out.1.drew ⟨1, rfl⟩⟩ ?_
    apply Exists.intro
    refine ⟨?_, ?_⟩
    · intro W hW
      have p0 := fun x => (Hc3.out _ (hW x).1).1
      have p1 := fun x => (Hc3.out _ (hW x).1).2.1
      have p2 := fun x => (Hc3.out _ (hW x).1).2.2.1
      have p3 := fun x => (Hc3.out _ (hW x).1).2.2.2.1
      have p4 := fun x => (Hc3.out _ (hW x).1).2.2.2.2
      have s0 : ∀ x, (W x).cell? ⟨ob, 0, none⟩ = some (.int .u8 (o.ac : Int)) := fun x => (hW x).2.cell 0
      have s1 : ∀ x, (W x).cell? ⟨ob, 1, none⟩ = some (.int .u8 (o.k : Int)) := fun x => (hW x).2.cell 1
      have s2 : ∀ x, (W x).cell? ⟨ob, 2, none⟩ = some (.int .u64 (o.a : Int)) := fun x => (hW x).2.cell 2
      have s3 : ∀ x, (W x).cell? ⟨ob, 3, none⟩ = some (.int .u64 (o.b : Int)) := fun x => (hW x).2.cell 3
      have s4 : ∀ x, (W x).cell? ⟨ob, 4, none⟩ = some (.int .u64 (o.c : Int)) := fun x => (hW x).2.cell 4
      clear hW
      simp only [List.take, opsAt, List.drop, List.cons_append, List.nil_append]
      repeat (go_big_quiet_step (fail))
      exact rfl
    simp only [List.take, List.drop, opsAt, List.cons_append, List.nil_append, wpHv]
    have HF : Hid (Below w2.heap.size w2 w5.drew ∧ Blk w5.drew ob 31 (opC o)) := hid ⟨HB5.out.2.trans ((Drew.below ⟨1, rfl⟩ _).mono HB5.out.2.size), HB5.out.1.drew ⟨1, rfl⟩⟩
    generalize w5.drew = wd at HF ⊢
    clear HB5
    go_wp2_with fail
    refine (HTd.out _ HF.out.1).mono ?_
    rintro e w6 ⟨rfl, hb6⟩
    simp only [show (opC ot).toArray = #[.int .u8 (ot.ac : Int), .int .u8 (ot.k : Int), .int .u64 (ot.a : Int), .int .u64 (ot.b : Int), .int .u64 (ot.c : Int)] from rfl]
    have HF6 : Hid (Below w2.heap.size w2 w6 ∧ Blk w6 ob 31 (opC o)) := hid ⟨HF.out.1.trans (hb6.mono HF.out.1.size), HF.out.2.below hb6⟩
    have HF7 : Hid (Below w2.heap.size w2 w6) := hid HF6.out.1
    clear hb6 HTd HF
    go_wp2_with fail
    refine ⟨HF6.out, ?_⟩
    go_wp2_with fail
    refine ⟨HF6.out, ?_⟩
    simp only [QN]
    clear HF6
    go_wp2
    exact ⟨⟨i + 1, by omega, by go_num, HF7⟩, by simp [intOf]; omega⟩
  have di : decide ((i : Int) < (n : Int)) = false := decide_eq_false (by omega)
  have di2 : decide (i < n) = false := decide_eq_false hin
  obtain ⟨wx, hwx⟩ : ∃ x, wr = x := ⟨_, rfl⟩
  rw [hwx] at HBw
  have HE0 : Hid (∃ raw, EO wx wx (.slice none 0 0) raw ∧ By raw ∧ raw.length = 7 * 0) := hid ⟨[], ⟨Below.refl _ _, ⟨rfl, .inl ⟨rfl, rfl⟩⟩⟩, fun b hb => (by cases hb), rfl⟩
  clear HBl HS3
  go_wp2_with fail
  clear di di2 hwx
  go_loopw [6, 39] (fun v v2 wr => ∃ i : Nat, i ≤ n ∧ v2 = .int .i64 (i : Int) ∧ Hid (∃ raw, EO wx wr v raw ∧ By raw ∧ raw.length = 7 * i)) (fun _ v2 _ => n - (intOf v2).toNat)
  case atStart => exact ⟨0, by omega, rfl, HE0⟩
  case round =>
  clear HE0
  obtain ⟨i, hi, rfl, HI⟩ := hrel
  obtain ⟨raw, hE, hby, hrl⟩ := HI.out
  have HE := hid hE
  have Hby := hid hby
  have Hrl := hid hrl
  clear hE hby hrl HI
  by_cases hin : i < n
  · as_aux_lemma =>
    have di : decide ((i : Int) < (n : Int)) = true := decide_eq_true (by omega)
    have ii : (i : Int) < (n : Int) := by omega
    obtain ⟨o, ho, hok, b, off, rfl, hb, c0, c1, c2, c3', c4⟩ := ((HS.out.below HBw.out).below HE.out.bel).at hin
    obtain ⟨ob, hob⟩ : ∃ p, wr.heap.size = p := ⟨_, rfl⟩
    have HOk := hid hok
    clear ho hok
    go_upto_region 16 with fail
    obtain ⟨w5, hw5⟩ : ∃ w2, wr.alloc (.cells #[.int .u8 (o.ac : Int), .int .u8 (o.k : Int), .int .u64 (o.a : Int), .int .u64 (o.b : Int), .int .u64 (o.c : Int)] 31) = w2 := ⟨_, rfl⟩
    have hk5 : Blk w5 ob 31 (opC o) := by rw [← hw5, ← hob]; exact Blk.new wr (opC o) _
    have HE5 := hid (HE.out.below (show Below wr.heap.size wr w5 by rw [← hw5]; exact nbel _ _))
    simp only [hw5]
    clear hw5 hob c0 c1 c2 c3' c4 hb
    have s0 : w5.cell? ⟨ob, 0, none⟩ = some (.int .u8 (o.ac : Int)) := hk5.cell 0
    have s1 : w5.cell? ⟨ob, 1, none⟩ = some (.int .u8 (o.k : Int)) := hk5.cell 1
    have s2 : w5.cell? ⟨ob, 2, none⟩ = some (.int .u64 (o.a : Int)) := hk5.cell 2
    have s3 : w5.cell? ⟨ob, 3, none⟩ = some (.int .u64 (o.b : Int)) := hk5.cell 3
    have s4 : w5.cell? ⟨ob, 4, none⟩ = some (.int .u64 (o.c : Int)) := hk5.cell 4
    clear hk5 HE
    go_wp2_with (first | (at_builtin; refine stopHereE ?_) | (refine wpList_bs7b rfl _ _ _ _ _ _ _ rfl _ _ _ _ _ _ _ rfl rfl rfl rfl rfl rfl rfl ?_; intro sg w7 hsg hw7))
    intro _
    have hB7 : Below w5.heap.size w5 w7 := by rw [← hw7]; exact nbel _ _
    have HE7 := hid (HE5.out.below hB7)
    have HK7 : Hid (Blk w7 sg 5 (aK .u8 [o.ac, o.k, o.a % 256, o.a / 256 % 256, o.b % 256, o.c % 256, o.c / 72057594037927936 % 256])) := hid (by rw [← hw7, ← hsg]; exact Blk.new w5 (aK .u8 [o.ac, o.k, o.a % 256, o.a / 256 % 256, o.b % 256, o.c % 256, o.c / 72057594037927936 % 256]) _)
    have Hb7 : Hid (By [o.ac, o.k, o.a % 256, o.a / 256 % 256, o.b % 256, o.c % 256, o.c / 72057594037927936 % 256]) := hid (by
      have h1 := HOk.out
      intro x hx
      simp only [List.mem_cons, List.not_mem_nil, or_false] at hx
      rcases hx with rfl | rfl | rfl | rfl | rfl | rfl | rfl
      · exact h1.ac
      · exact h1.k
      · exact Nat.mod_lt _ (by omega)
      · exact Nat.mod_lt _ (by omega)
      · exact Nat.mod_lt _ (by omega)
      · exact Nat.mod_lt _ (by omega)
      · exact Nat.mod_lt _ (by omega))
    clear hw7 hsg hB7 HE5
    refine wpList_app_eo rfl (.tmp 43) (.tmp 65) rfl rfl HE7.out [o.ac, o.k, o.a % 256, o.a / 256 % 256, o.b % 256, o.c % 256, o.c / 72057594037927936 % 256] (by have := Hrl.out; simp only [List.length_cons, List.length_nil]; omega) sg 7 rfl rfl HK7.out ?_
    intro v9 w9 hE9 hF9
    have HF : Hid (∃ raw, EO wx w9 v9 raw ∧ By raw ∧ raw.length = 7 * (i + 1)) := hid ⟨_, hE9, fun x hx => (List.mem_append.1 hx).elim (Hby.out x) (Hb7.out x), by rw [List.length_append, Hrl.out]; simp only [List.length_cons, List.length_nil]; omega⟩
    clear hE9 hF9 HE7 HK7 Hb7 s0 s1 s2 s3 s4
    simp only [Act.put, List.setIfInBounds_toArray, List.set_cons_succ, List.set_cons_zero]
    go_wp2
    exact ⟨⟨i + 1, by omega, by go_num, HF⟩, by simp [intOf]; omega⟩
  have di : decide ((i : Int) < (n : Int)) = false := decide_eq_false (by omega)
  have di2 : decide (i < n) = false := decide_eq_false hin
  have e : i = n := by omega
  subst e
  clear hi hin
  obtain ⟨ra, rc, rfl, hrr⟩ := HE.out.rd Hby.out (by rw [Hrl.out]; omega)
  have hrsp := HE.out.spot
  have HRr := hid hrr
  have Hrsp := hid hrsp
  have HBq : Hid (Below w'.heap.size w' wr) := hid (HBw.out.trans (HE.out.bel.mono HBw.out.size))
  rw [Hrl.out] at HRr
  simp only [Hrl.out]
  generalize hrn : 7 * i = rn at HRr
  have hrnl : rn ≤ 100000000 := by omega
  clear hrr hrsp HE HBw hrn Hrl
  go_upto_if 70 with fail
  go_cut [9] from 36 to 82 (fun v wc => Hid (Below wr.heap.size wr wc ∧ ∃ cu : Nat, v = .int .u64 (cu : Int) ∧ cu < 18446744073709551616))
  case first =>
    as_aux_lemma =>
    by_cases hi0 : 0 < i
    · have d0 : decide ((0 : Int) < (i : Int)) = true := decide_eq_true (by omega)
      have d0' : decide (0 < i) = true := decide_eq_true hi0
      have ii0 : (0 : Int) < (i : Int) := by omega
      obtain ⟨il, hil⟩ : ∃ x, i - 1 = x := ⟨_, rfl⟩
      have tl : (i : Int) - 1 = (il : Int) := by omega
      have iil : (il : Int) < (i : Int) := by omega
      obtain ⟨o0, ho0, _, b, off, rfl, _, _⟩ := (HS.out.below HBq.out).at hi0
      have Hc0 : Hid (∃ x : Nat, ∀ wy, Below wr.heap.size wr wy → wy.cell? ⟨b, off + 2, none⟩ = some (.int .u64 (x : Int))) := hid ⟨o0.a, fun wy hy => by
        obtain ⟨o2, ho2, _, b2, off2, e2, _, _, _, q, _⟩ := ((HS.out.below HBq.out).below hy).at hi0
        cases e2
        rw [Nat.zero_mul, Nat.add_zero] at q
        rw [q]
        have : some o2 = some o0 := by rw [← ho2, ← ho0]
        cases this
        rfl⟩
      obtain ⟨o1, ho1, _, b1, off1, e1, _, _⟩ := (HS.out.below HBq.out).at (show il < i by omega)
      cases e1
      have Hc1 : Hid (∀ wy, Below wr.heap.size wr wy → wy.cell? ⟨b, off + il * 5 + 3, none⟩ = some (.int .u64 (o1.b : Int))) := hid (fun wy hy => by
        obtain ⟨o2, ho2, _, b2, off2, e2, _, _, _, _, q, _⟩ := ((HS.out.below HBq.out).below hy).at (show il < i by omega)
        cases e2
        rw [q]
        rw [ho1] at ho2
        cases ho2
        rfl)
      obtain ⟨x0, hx0⟩ := Hc0.out
      have Hx0 := hid hx0
      clear hil hx0 ho1 ho0 Hc0
      go_upto_region 20 with fail
      refine wp_region_heavy (fun wy => Below wr.heap.size wr wy) 13 (List.range 13) [] rfl (by kernel_rfl) (by kernel_rfl) (fun d _ _ _ _ h => by cases d <;> exact h) (Drew.below ⟨1, rfl⟩ _) ?_
      apply Exists.intro
      refine ⟨?_, ?_⟩
      · intro W hW
        have q0 := fun x => Hx0.out _ (hW x)
        have q1 := fun x => Hc1.out _ (hW x)
        clear hW
        simp only [List.take, opsAt, List.drop, List.cons_append, List.nil_append, List.range, List.range.loop]
        repeat (go_big_quiet_step (fail))
        exact rfl
      simp only [List.take, List.drop, opsAt, List.cons_append, List.nil_append, wpHv, QN]
      have HF : Hid (Below wr.heap.size wr wr.drew) := hid (Drew.below ⟨1, rfl⟩ _)
      generalize wr.drew = wd at HF ⊢
      obtain ⟨t, ht, htb⟩ := wrapN ((x0 : Int) + (o1.b : Int))
      have Ht := hid ht
      clear ht
      go_wp2_with fail
      go_meet
      exact hid ⟨HF.out, t, by rw [← Ht.out], htb⟩
    · have d0 : decide ((0 : Int) < (i : Int)) = false := decide_eq_false (by omega)
      have d0' : decide (0 < i) = false := decide_eq_false hi0
      go_wp2_with fail
      go_meet
      exact hid ⟨Below.refl _ _, 0, rfl, by omega⟩
  case rest =>
  obtain ⟨hbc, cu, rfl, hcu⟩ := hcut.out
  have HBc : Hid (Below w'.heap.size w' wc) := hid (HBq.out.trans (hbc.mono HBq.out.size))
  have HRc := hid (HRr.out.below hbc)
  clear hcut hbc HRr HBq
  go_wp2_with fail
  refine (HEn.out _ HBc.out).mono ?_
  rintro e w10 ⟨v10, rfl, hE10⟩
  obtain ⟨at_, ct, rfl, hrt⟩ := hE10.rd (enc_by s) (by have := HEl.out; omega)
  have Htsp := hid hE10.spot
  have HRt := hid hrt
  have HB10 : Hid (Below w'.heap.size w' w10) := hid (HBc.out.trans (hE10.bel.mono HBc.out.size))
  have HR10 := hid (HRc.out.below hE10.bel)
  obtain ⟨tn, htn⟩ : ∃ x, (enc s).length = x := ⟨_, rfl⟩
  rw [htn] at HRt HEl
  simp only [htn]
  have htnl := HEl.out
  have HD1 := hid (decodesWell_walk HR10.out (HG.out.below HB10.out) (HA.out.below HB10.out) hrnl cu hcu Hrsp.out)
  clear hE10 hrt htn HEn HRc HBc
  go_wp2_with fail
  refine HD1.out.mono ?_
  rintro e w11 ⟨rfl, hb11⟩
  have HB11 : Hid (Below w'.heap.size w' w11) := hid (HB10.out.trans (hb11.mono HB10.out.size))
  have HR11 := hid (HRt.out.below hb11)
  have HD2 := hid (decodesWell_walk HR11.out (HG.out.below HB11.out) (HA.out.below HB11.out) htnl cu hcu Htsp.out)
  clear hb11 HD1 HB10 HR10 HRt
  go_wp2_with fail
  refine HD2.out.mono ?_
  rintro e w12 ⟨rfl, hb12⟩
  have HB12 : Hid (Below w'.heap.size w' w12) := hid (HB11.out.trans (hb12.mono HB11.out.size))
  have HR12 := hid (HR11.out.below hb12)
  obtain ⟨ck, hck⟩ : ∃ x, cu % (tn + 1) = x := ⟨_, rfl⟩
  obtain ⟨cq, hcq⟩ : ∃ x, cu / 3 = x := ⟨_, rfl⟩
  have hckn : ck ≤ tn := by rw [← hck]; exact Nat.le_of_lt_succ (Nat.mod_lt _ (by omega))
  have hwq : IntKind.u64.wrap (cq : Int) = (cq : Int) := by rw [IntKind.wrap_u64]; omega
  have Hwq := hid hwq
  clear hwq
  have tc : (cu : Int).tmod ((tn : Int) + 1) = (ck : Int) := by rw [Int.tmod_eq_emod_of_nonneg (by omega), ← hck]; exact (Int.natCast_emod cu (tn + 1)).symm
  have tq : (cu : Int).tdiv 3 = (cq : Int) := by rw [Int.tdiv_eq_ediv_of_nonneg (by omega), ← hcq]; exact (Int.natCast_ediv cu 3).symm
  have dz : (((tn : Int) + 1) == 0) = false := by simp; omega
  have dz2 : (tn : Int) + 1 ≠ 0 := by omega
  have inn : (tn : Int) ≤ 100000000 := by omega
  have hsl := slice_by at_ tn ct ck (Nat.le_trans hckn HR12.out.cap) Htsp.out
  have HD3 := hid (decodesWell_walk (HR12.out.take hckn) (HG.out.below HB12.out) (HA.out.below HB12.out) (by omega) cq (by omega) Htsp.out)
  clear hb12 HD2 HB11 HR11 hck hcq
  go_wp2_with fail
  rw [Hwq.out]
  refine HD3.out.mono ?_
  rintro e w13 ⟨rfl, hb13⟩
  have HF := hid (HB12.out.trans (hb13.mono HB12.out.size))
  clear hb13 HD3 HB12 HR12 tc tq dz dz2 hsl
  go_wp2
  go_ret
  exact ⟨rfl, HF.out⟩
end Go.Proofs.Qxb6500889aDoor
