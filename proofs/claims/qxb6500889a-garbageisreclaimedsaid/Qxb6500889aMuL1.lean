/- The law HandlesAreNeverGivenTwice. -/
import Derived.Test.Qxb6500889aMuOp
namespace Go.Proofs.Qxb6500889a
open Go.RowKit
set_option linter.unusedSimpArgs false
set_option linter.unusedVariables false
/-- A world inside a law: the machine behind k steps. -/
structure LW (w0 : World) (wB k : Nat) (ρ : Rl) (L : HL) (T : XL) (V : WL) (H : HS) (X : XS) (G : List Nat) (wr : World) : Prop where
  wm : WM wr ρ L T V H X G
  hv : V.wB = wB
  hi : HI H X
  xn : XN X k
  gv : GvI X G
  gl : G.length ≤ k
  bel : Below w0.heap.size w0 wr
  low : ∀ g, g < w0.heap.size → ρ g = 0
section
variable {w0 w w' w'' wr : World} {wB k : Nat} {ρ ρ' : Rl} {L : HL} {T : XL} {V : WL} {H H' : HS} {X X' : XS} {G : List Nat} {o : OpP} {z : Rz}
theorem LW.below (h : LW w0 wB k ρ L T V H X G wr) (hb : Below wr.heap.size wr w') : LW w0 wB k ρ L T V H X G w' := ⟨h.wm.below hb, h.hv, h.hi, h.xn, h.gv, h.gl, h.bel.trans (hb.mono h.bel.size), h.low⟩
/-- A block of no role is written. -/
theorem LW.other (h : LW w0 wB k ρ L T V H X G wr) {g : Nat} (hu : Upd g wr w') (h0 : ρ g = 0) (hg : w0.heap.size ≤ g) : LW w0 wB k ρ L T V H X G w' := ⟨h.wm.other hu (.inl h0), h.hv, h.hi, h.xn, h.gv, h.gl, h.bel.trans (hu.below hg h.bel.size), h.low⟩
/-- A step is played. -/
theorem LW.play (h : LW w0 wB k ρ L T V H X G wr) (hk : k < 100000000000) (o : OpP) (hob : OpB o) :
    Calls Try.prog 12 #[.pointer (some ⟨wB, 0, none⟩), .agg (opC o).toArray] wr fun e w' => ∃ H' X' z ρ' L' T' V', e = .returned (.agg (rzC z).toArray) ∧ DoS H X o H' X' z ∧ LW w0 wB (k + 1) ρ' L' T' V' H' (doX X' z) (G ++ gvL o z) w' ∧ Fw ρ wr ρ' w' := by
  have hp := play_walk h.wm h.hi h.xn hk h.gl o hob
  rw [h.hv] at hp
  refine hp.mono ?_
  rintro e w' ⟨H', X', z, k1, k2, ρ', L', T', V', k3, k4, k5, k6, k7⟩
  refine ⟨H', X', z, ρ', L', T', V', k1, k2, ⟨k3, k4.trans h.hv, k2.inv h.hi, k2.xn h.xn (by omega), (h.gv.step h.xn (by omega) k2).1, ?_, h.bel.trans (k7.toBelow h.bel.size h.low), fun g hg => ?_⟩, k7⟩
  · rw [List.length_append]
    have := gvL_len o z
    have := h.gl
    omega
  · rw [k7.old g (Nat.lt_of_lt_of_le hg h.bel.size)]
    exact h.low g hg
end
/-- The law's own: the map of those seen. -/
def Sn (w : World) (sB : Nat) (G : List Nat) : Prop := ∃ E, PN w sB E ∧ (∀ e ∈ E, e.v = .bool true) ∧ E.map (·.k) = G
theorem Sn.of {w w' : World} {sB : Nat} {G : List Nat} (h : Sn w sB G) (he : w'.heap[sB]? = w.heap[sB]?) : Sn w' sB G := by
  obtain ⟨E, h1, h2, h3⟩ := h
  exact ⟨E, h1.of he, h2, h3⟩
theorem Sn.lt {w : World} {sB : Nat} {G : List Nat} (h : Sn w sB G) : sB < w.heap.size := by
  obtain ⟨E, h1, h2, h3⟩ := h
  exact h1.lt
theorem zero_bool' (w : World) : (zeroValue 4).run Try.prog w = .ok (.bool false) w := by kernel_rfl
theorem Sn.not {w : World} {sB : Nat} {G : List Nat} (h : Sn w sB G) {v : Nat} (hv : v ∉ G) : (Instr.lookup 51 (.map (some sB)) (.int .u64 (v : Int)) false).run Try.prog w = .ok (.bool false) w := by
  obtain ⟨E, h1, h2, h3⟩ := h
  exact h1.lookZ (P := Try.prog) Try.underlying51 Try.underlying57 (fun e he hek => hv (by rw [← h3, ← hek]; exact List.mem_map_of_mem he)) zero_bool'
theorem Sn.put {w : World} {sB : Nat} {G : List Nat} (h : Sn w sB G) {v : Nat} (hv : v ∉ G) : ∃ w', (Instr.mapUpdate 51 (.map (some sB)) (.int .u64 (v : Int)) (.bool true)).run Try.prog w = .ok () w' ∧ Sn w' sB (G ++ [v]) ∧ Upd sB w w' := by
  obtain ⟨E, h1, h2, h3⟩ := h
  obtain ⟨w2, b, g1, g2, g3⟩ := h1.put (P := Try.prog) Try.underlying51 Try.underlying57 v (.bool true) (fun e he hek => hv (by rw [← h3, ← hek]; exact List.mem_map_of_mem he))
  refine ⟨w2, g1, ⟨_, g2, fun y hy => ?_, by simp [h3]⟩, g3⟩
  rcases List.mem_append.1 hy with hy | hy
  · exact h2 y hy
  · rw [List.mem_singleton.1 hy]
structure G1 (w0 : World) (wB sB k : Nat) (wr : World) : Prop where
  ex : ∃ ρ L T V H X G, LW w0 wB k ρ L T V H X G wr ∧ Sn wr sB G ∧ ρ sB = 0
  sl : w0.heap.size ≤ sB
theorem slice_from (g : Nat) (n i k : Nat) (hi : i < n) (hn : n ≤ k) (hk : k ≤ maxLen) (w : World) : (Instr.sliceAt 42 (.slice (some ⟨g, 0, none⟩) n k) (some (.int .i64 (i : Int))) none none).run Try.prog w = .ok (.slice (some ⟨g, i, none⟩) (n - i) (k - i)) w := by
  unfold maxLen at hk
  have e2 : ¬ (k = i) := by omega
  simp [Instr.sliceAt, go_sem, slicedAt]
  rw [if_pos (by omega), if_neg e2]
theorem slice_end (a : Option Addr) (n k : Nat) (hn : n ≤ k) (hk : k ≤ maxLen) (w : World) : ∃ a' k', (Instr.sliceAt 42 (.slice a n k) (some (.int .i64 (n : Int))) none none).run Try.prog w = .ok (.slice a' 0 k') w := by
  unfold maxLen at hk
  cases a with
  | none => simp [Instr.sliceAt, go_sem, slicedAt]
  | some ad => simp [Instr.sliceAt, go_sem, slicedAt]
/-- The row of all handles is read at once. -/
theorem all_shape {w : World} {ρ : Rl} {v : Value} {G : List Nat} (h : RowK w ρ 57 .u64 44 v G) : ∃ a k, v = .slice a G.length k ∧ G.length ≤ k ∧ k ≤ maxLen := by
  obtain ⟨a, k, rfl⟩ := h.shape
  have := h.cap
  exact ⟨a, k, rfl, this.2, this.1⟩
set_option maxRecDepth 1000000 in
set_option maxHeartbeats 4000000 in
theorem given_walk (a : Option Addr) (n c : Nat) (l : List OpP) (w : World) (hs : Script w a n c l) :
    Calls Try.prog 6 #[.slice a n c] w fun e w' => e = .returned (.bool true) ∧ Below w.heap.size w w' := by
  have HSm := hid (fun w => small_walk a n c w)
  have HS := hid hs
  have HNw := hid (fun w => newWorld_walk w)
  clear hs
  by_cases hsm : n ≤ 65536
  rotate_left
  · as_aux_lemma =>
    rw [decide_eq_false hsm] at HSm
    go_enter Try.func6, Try.ntmps6
    go_wp2_with (go_at_call 9; refine (HSm.out _).mono ?_; rintro e w' ⟨rfl, rfl⟩)
    go_ret
    exact ⟨rfl, Below.refl _ _⟩
  rw [decide_eq_true hsm] at HSm
  have hmk := @run_makeMap Try.prog
  go_enter Try.func6, Try.ntmps6
  go_wp2_with (go_at_call 9; refine (HSm.out _).mono ?_; rintro e w' ⟨rfl, rfl⟩)
  refine (HNw.out _).mono ?_
  rintro e w1 ⟨ρ1, L1, T1, V1, rfl, hW1, hl1, hb1⟩
  obtain ⟨wB, hwB⟩ : ∃ b, V1.wB = b := ⟨_, rfl⟩
  rw [hwB]
  obtain ⟨sB, hsB⟩ : ∃ b, w1.heap.size = b := ⟨_, rfl⟩
  have HLI : Hid (G1 w' wB sB 0 (w1.alloc (.map #[] 0))) := hid (by
    have hb := nbel w1 (.map #[] 0)
    refine ⟨⟨ρ1, L1, T1, V1, H0, X0, [], ⟨hW1.below hb, hwB, HI.zero, XN.zero, GvI.zero, Nat.le_refl _, hb1.trans (hb.mono hb1.size), hl1⟩, ⟨[], PN.new w1 hsB, fun e he => (by cases he), rfl⟩, hW1.new0 (by omega)⟩, by have := hb1.size; omega⟩)
  clear hW1 hl1 hb1 hwB HNw HSm
  go_upto_region 5 with fail
  try simp only [hsB]
  generalize w1.alloc (.map #[] 0) = w2 at HLI ⊢
  clear hsB hmk
  go_wp2_with fail
  go_loopw [17] (fun v wr => ∃ i : Nat, i ≤ n ∧ v = .int .i64 (i : Int) ∧ Hid (G1 w' wB sB i wr)) (fun v _ => n - (intOf v).toNat)
  case atStart => exact ⟨0, by omega, rfl, HLI⟩
  case round =>
  clear HLI
  obtain ⟨i, hi, rfl, HLI⟩ := hrel
  obtain ⟨ρ, L, T, V, H, X, G, hLW, hSn, hr0⟩ := HLI.out.ex
  have HLW := hid hLW
  have HSn := hid hSn
  have Hr0 := hid hr0
  have Hsl := hid HLI.out.sl
  clear hLW hSn hr0 HLI
  by_cases hin : i < n
  rotate_left
  · as_aux_lemma =>
    have di : decide ((i : Int) < (n : Int)) = false := decide_eq_false (by omega)
    go_wp2
    go_ret
    exact ⟨rfl, HLW.out.bel⟩
  have di : decide ((i : Int) < (n : Int)) = true := decide_eq_true (by omega)
  have hii : (i : Int) < (n : Int) := by omega
  obtain ⟨o, ho, hok, b, off, rfl, hb, c0, c1, c2, c3, c4⟩ := (HS.out.below HLW.out.bel).at hin
  have HOk := hid hok
  clear ho hok
  obtain ⟨ob, hob⟩ : ∃ p, wr.heap.size = p := ⟨_, rfl⟩
  go_upto_region 8 with fail
  obtain ⟨w3, hw3⟩ : ∃ w2, wr.alloc (.cells #[.int .u8 (o.ac : Int), .int .u8 (o.k : Int), .int .u64 (o.a : Int), .int .u64 (o.b : Int), .int .u64 (o.c : Int)] 31) = w2 := ⟨_, rfl⟩
  have HW3 : Hid (LW w' wB i ρ L T V H X G w3 ∧ Blk w3 ob 31 (opC o) ∧ Sn w3 sB G) := hid (by
    rw [← hw3]
    have hbk := Blk.new wr (opC o) 31
    rw [hob] at hbk
    exact ⟨HLW.out.below (nbel wr _), hbk, HSn.out.of ((nbel wr _).block _ HSn.out.lt)⟩)
  simp only [hw3]
  clear hw3 hob c0 c1 c2 c3 c4 HLW HSn
  obtain ⟨aa, ak, hav, hak, hak2⟩ := all_shape HW3.out.1.wm.al
  have cA := HW3.out.1.wm.cells.2.2
  rw [hav, HW3.out.1.hv] at cA
  obtain ⟨ng, hng⟩ : ∃ k, G.length = k := ⟨_, rfl⟩
  rw [hng] at cA
  have Hng := hid hng
  clear hav hak hak2 hng
  go_upto_region 9 with fail
  have I1 : Hid ((Try.prog.info? 31).map (·.size) = some 5) := hid info_op
  clear cA
  go_wp2_with (refine wpList_load_blk rfl 31 _ rfl ob rfl (opC o) HW3.out.2.1 _ Try.underlying31 rfl I1.out ?_)
  refine (HW3.out.1.play (by omega) o HOk.out).mono ?_
  rintro e w4 ⟨H4, X4, z, ρ4, L4, T4, V4, rfl, hs4, hL4, hf4⟩
  have hSn4 : Sn w4 sB G := HW3.out.2.2.of (hf4.blk _ HW3.out.2.2.lt (by rw [Hr0.out]; omega))
  have hr4 : ρ4 sB = 0 := by rw [hf4.old _ HW3.out.2.2.lt]; exact Hr0.out
  have hgs := (HW3.out.1.gv.step HW3.out.1.xn (by omega) hs4).2
  have HL4 := hid hL4
  have HSn4 := hid hSn4
  have Hr4 := hid hr4
  obtain ⟨aa, ak, hav, hak, hak2⟩ := all_shape hL4.wm.al
  have cA := hL4.wm.cells.2.2
  rw [hav, hL4.hv, List.length_append, Hng.out] at cA
  rw [List.length_append, Hng.out] at hak hav
  have hgl := gvL_len o z
  rcases (by cases hg : gvL o z with | nil => exact .inl rfl | cons v t => rw [hg] at hgl; cases t with | nil => exact .inr ⟨v, rfl⟩ | cons _ _ => simp at hgl : gvL o z = [] ∨ ∃ v, gvL o z = [v]) with hg | ⟨v, hg⟩
  · as_aux_lemma =>
    rw [hg] at cA hak hav
    simp only [List.length_nil, Nat.add_zero] at cA hak hav
    obtain ⟨a', k', hsl⟩ := slice_end aa ng ak hak hak2 w4
    have HE : Hid (G1 w' wB sB (i + 1) w4) := hid ⟨⟨ρ4, L4, T4, V4, H4, _, _, HL4.out, by rw [hg, List.append_nil]; exact HSn4.out, Hr4.out⟩, Hsl.out⟩
    clear HL4 HSn4 Hr4 hs4 hL4 hf4 hSn4 hr4 hgs hgl hg hak hav HW3
    go_upto_region 11 with fail
    go_loopw [36] (fun v wq => v = .int .i64 0 ∧ Hid (G1 w' wB sB (i + 1) wq)) (fun _ _ => 0)
    case atStart => exact ⟨rfl, HE⟩
    case round =>
      obtain ⟨rfl, HEq⟩ := hrel
      clear HE hsl cA
      go_wp2
      exact ⟨⟨i + 1, by omega, by go_num, HEq⟩, by simp [intOf]; omega⟩
  · as_aux_lemma =>
    have hv := hgs v (by rw [hg]; simp)
    rw [hg] at cA hak hav
    simp only [List.length_cons, List.length_nil, Nat.zero_add] at cA hak hav
    have hget : (G ++ gvL o z)[ng]? = some v := by rw [hg, ← Hng.out]; simp
    obtain ⟨g9, q9, e9, hcv⟩ := hL4.wm.al.get hget
    rw [hav] at e9
    have e9' : aa = some ⟨g9, 0, none⟩ := by injection e9
    subst e9'
    have hsl := slice_from g9 (ng + 1) ng ak (by omega) hak hak2 w4
    have e1 : ng + 1 - ng = 1 := by omega
    rw [e1] at hsl
    have hlk := HSn4.out.not hv.2
    obtain ⟨w5, hput, hSn5, hu5⟩ := HSn4.out.put hv.2
    have HE : Hid (G1 w' wB sB (i + 1) w5) := hid ⟨⟨ρ4, L4, T4, V4, H4, _, _, HL4.out.other hu5 Hr4.out Hsl.out, by rw [hg]; exact hSn5, Hr4.out⟩, Hsl.out⟩
    have dv : decide ((v : Int) ≤ 255) = false := decide_eq_false (by omega)
    clear HL4 HSn4 Hr4 hs4 hL4 hf4 hSn4 hr4 hgs hgl hg hak hav HW3 hget e9 e1 hSn5 hu5
    go_upto_region 11 with fail
    obtain ⟨wq0, hwq0⟩ : ∃ x, x = w4 := ⟨_, rfl⟩
    have Hwq0 := hid hwq0
    rw [← hwq0]
    clear hwq0
    go_loopw [36] (fun v wq => (v = .int .i64 0 ∧ Hid (wq = w4)) ∨ (v = .int .i64 1 ∧ Hid (G1 w' wB sB (i + 1) wq))) (fun v _ => 1 - (intOf v).toNat)
    case atStart => exact .inl ⟨rfl, Hwq0⟩
    case round =>
      rcases hrel with ⟨rfl, hq⟩ | ⟨rfl, HEq⟩
      · obtain rfl := hq.out
        clear hsl cA
        go_wp2
        exact ⟨.inr ⟨by go_num, HE⟩, by simp [intOf]⟩
      · clear HE hsl cA hlk hput hcv
        go_wp2
        exact ⟨⟨i + 1, by omega, by go_num, HEq⟩, by simp [intOf]; omega⟩
end Go.Proofs.Qxb6500889a
