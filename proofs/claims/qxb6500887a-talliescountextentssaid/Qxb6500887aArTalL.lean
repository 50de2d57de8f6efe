/- TalliesCountExtents: the law (written by tools/mk_talL.py). -/
import Derived.Test.Qxb6500887aArTal3
import Derived.Deep.DeepCutAuto
import Derived.Test.Qxb6500887aMid
import Derived.Test.Qxb6500887aArExtLaw
namespace Go.Proofs.Qxb6500887a
open Go.RowKit
set_option linter.unusedSimpArgs false
set_option linter.unusedVariables false

/-- Inside a round: the step in the block pO, its extent in the block qe. -/
structure LR (w0 : World) (A t b pw pO qe : Nat) (oc : List Value) (k n : Nat) (f g : Nat → Nat) (v : Value) (l : List (Nat × Nat)) (w : World) : Prop where
  lm : LM w0 A t b pw f g v l w
  po : Blk w pO 34 oc
  qb : Blk w qe 64 [.int .i64 (k : Int), .int .i64 (n : Int)]
  lq : w0.heap.size ≤ qe
  nq : v.ownBlock ≠ some qe
section
variable {w0 w w' : World} {A t b pw pO qe : Nat} {oc : List Value} {k n k' n' : Nat} {f f' g g' : Nat → Nat} {v v' : Value} {l l' : List (Nat × Nat)}
theorem LR.below (h : LR w0 A t b pw pO qe oc k n f g v l w) (hb : Below w.heap.size w w') : LR w0 A t b pw pO qe oc k n f g v l w' := ⟨h.lm.below hb, h.po.below hb, h.qb.below hb, h.lq, h.nq⟩
theorem LR.put (h : LR w0 A t b pw pO qe oc k n f g v l w) {i : Nat} (hi : i < 2048) (hh : ∀ j, j < 2048 → g' j = if j = i then g' i else g j) : LR w0 A t b pw pO qe oc k n f g' v l (w.setCell ⟨pw, i, none⟩ (.int .i64 ((g' i : Nat) : Int))) := by
  have hu : Upd pw w (w.setCell ⟨pw, i, none⟩ (.int .i64 ((g' i : Nat) : Int))) := (Upd.refl pw w).setCell rfl _
  exact ⟨h.lm.put hi hh, h.po.upd hu (h.po.tneA h.lm.wk (by decide)), h.qb.upd hu (h.qb.tneA h.lm.wk (by decide)), h.lq, h.nq⟩
theorem LR.ua (h : LR w0 A t b pw pO qe oc k n f g v l w) (ha : AT A t b f' w') (hu : UA A b w w') : LR w0 A t b pw pO qe oc k n f' g v l w' := by
  obtain ⟨v0, v1, v2, v3, ver, kk⟩ := h.lm.ar.ar
  obtain ⟨_, ⟨c2, b2⟩⟩ := h.lm.ar.t4.blks
  exact ⟨h.lm.ua ha hu, hu.blk h.po (h.po.tneA kk (by decide)) (h.po.tneA b2 (by decide)), hu.blk h.qb (h.qb.tneA kk (by decide)) (h.qb.tneA b2 (by decide)), h.lq, h.nq⟩
theorem LR.congr (h : LR w0 A t b pw pO qe oc k n f g v l w) (h1 : ∀ i, i < 2048 → f i = f' i) (h2 : ∀ i, i < 2048 → g i = g' i) : LR w0 A t b pw pO qe oc k n f' g' v l w := ⟨h.lm.congr h1 h2, h.po, h.qb, h.lq, h.nq⟩
end
def LI (w0 : World) (A t b pw i : Nat) (v : Value) (w : World) : Prop := ∃ L f, LM w0 A t b pw f f v L w ∧ (∀ j, j < 2048 → f j = nT L j) ∧ L.length ≤ i
theorem f_le {w0 w : World} {A t b pw : Nat} {f g : Nat → Nat} {v : Value} {l : List (Nat × Nat)} (h : LM w0 A t b pw f g v l w) {i : Nat} (hi : i < 2048) : f i < 16 := h.ar.t4.lt16 hi
theorem info_arr : (Try.prog.info? 74).map (·.size) = some 2048 := by kernel_rfl
theorem idx_arr (cs : Array Value) (i : Nat) (hi : i < 2048) (v : Int) (hc : cs[i]? = some (.int .i64 v)) (w : World) : (Instr.index 74 (.agg cs) (.int .i64 (i : Int))).run Try.prog w = .ok (.int .i64 v) w := by
  have h2 : ¬ 2048 ≤ i := by omega
  simp [Instr.index, asIntOf, go_sem, part, hi, h2, hc]
theorem stopHereA {p : Prop} (h : True → p) : p := h trivial
def prw (f g : Nat → Nat) (q : Nat) : Nat → Nat := fun j => if j < q then g j else f j
theorem AT.keep {A t b : Nat} {f : Nat → Nat} {w w' : World} (h : AT A t b f w) (hk : ∀ g t cs, Blk w g t cs → t ≠ 64 → w'.heap[g]? = w.heap[g]?) : AT A t b f w' := by
  have kb : ∀ g t cs, Blk w g t cs → t ≠ 64 → Blk w' g t cs := fun g t cs hb ht => by
    have := hk g t cs hb ht
    unfold Blk at hb ⊢
    rw [this]
    exact hb
  obtain ⟨v0, v1, v2, v3, ver, k⟩ := h.ar
  obtain ⟨l, k1, k2⟩ := h.t4.ws
  exact ⟨⟨v0, v1, v2, v3, ver, kb _ _ _ k (by decide)⟩, ⟨⟨l, ⟨kb _ _ _ k1.tb (by decide), kb _ _ _ k1.wb (by decide)⟩, k2⟩, h.t4.ne⟩⟩
theorem LM.updE {w0 w w' : World} {A t b pw q : Nat} {f g : Nat → Nat} {v : Value} {l : List (Nat × Nat)} {cs : List Value} (h : LM w0 A t b pw f g v l w) (hb : Blk w q 64 cs) (hv : v.ownBlock ≠ some q) (hl : w0.heap.size ≤ q) (hu : Upd q w w') : LM w0 A t b pw f g v l w' := by
  obtain ⟨v0, v1, v2, v3, ver, k⟩ := h.ar.ar
  obtain ⟨⟨c1, b1⟩, ⟨c2, b2⟩⟩ := h.ar.t4.blks
  exact ⟨⟨⟨v0, v1, v2, v3, ver, k.upd hu (k.tneA hb (by decide))⟩, h.ar.t4.upd hu (b1.tneA hb (by decide)) (b2.tneA hb (by decide))⟩, h.wk.upd hu (h.wk.tneA hb (by decide)), h.oh.keep fun k hk => hu.block k (by obtain ⟨_, ds, kb⟩ := h.oh.blk hk; exact kb.lt) (fun e => by subst e; exact hv hk), h.ok, h.bel.trans (hu.below hl h.bel.size), h.lo⟩
theorem LR.setE {w0 w : World} {A t b pw pO qe : Nat} {oc : List Value} {k n : Nat} {f g : Nat → Nat} {v : Value} {l : List (Nat × Nat)} (h : LR w0 A t b pw pO qe oc k n f g v l w) (k' n' : Nat) : LR w0 A t b pw pO qe oc k' n' f g v l ((w.setCell ⟨qe, 0, none⟩ (.int .i64 (k' : Int))).setCell ⟨qe, 1, none⟩ (.int .i64 (n' : Int))) := by
  have hu : Upd qe w ((w.setCell ⟨qe, 0, none⟩ (.int .i64 (k' : Int))).setCell ⟨qe, 1, none⟩ (.int .i64 (n' : Int))) := ((Upd.refl qe w).setCell rfl _).setCell rfl _
  exact ⟨h.lm.updE h.qb h.nq h.lq hu, h.po.upd hu (h.po.tneA h.qb (by decide)), (h.qb.set 0 _).set 1 _, h.lq, h.nq⟩
/-- The held extents have a new row. -/
theorem LR.row {w0 w w' : World} {A t b pw pO qe : Nat} {oc : List Value} {k n : Nat} {f g : Nat → Nat} {v v' : Value} {l l' : List (Nat × Nat)} (h : LR w0 A t b pw pO qe oc k n f g v l w) (ho : OH w' w0.heap.size v' l') (hb : Below w0.heap.size w w') (hk : ∀ k, k < w.heap.size → (∀ g, v.ownBlock = some g → k ≠ g) → w'.heap[k]? = w.heap[k]?) (hg : ∀ g, v'.ownBlock = some g → v.ownBlock = some g ∨ g = w.heap.size) (hok : ∀ e ∈ l', EOk e.1 e.2) : LR w0 A t b pw pO qe oc k n f g v' l' w' := by
  have ky : ∀ g t cs, Blk w g t cs → t ≠ 64 → w'.heap[g]? = w.heap[g]? := fun g t cs hb ht => hk g hb.lt (fun q hq => by
    obtain ⟨_, ds, kb⟩ := h.lm.oh.blk hq
    exact hb.tneA kb ht)
  have kb : ∀ g t cs, Blk w g t cs → t ≠ 64 → Blk w' g t cs := fun g t cs hb ht => by
    have := ky g t cs hb ht
    unfold Blk at hb ⊢
    rw [this]
    exact hb
  have kq : Blk w' qe 64 [.int .i64 (k : Int), .int .i64 (n : Int)] := by
    have := hk qe h.qb.lt (fun q hq e => h.nq (by rw [e]; exact hq))
    have q := h.qb
    unfold Blk at q ⊢
    rw [this]
    exact q
  exact ⟨⟨h.lm.ar.keep ky, kb _ _ _ h.lm.wk (by decide), ho, hok, h.lm.bel.trans hb, h.lm.lo⟩, kb _ _ _ h.po (by decide), kq, h.lq, fun e => by
    rcases hg qe e with q | q
    · exact h.nq q
    · have := h.qb.lt
      omega⟩
/-- The extent is stored in its block. -/
theorem storeT {w0 : World} {A t b pw pO q : Nat} {oc : List Value} {f g : Nat → Nat} {v : Value} {l : List (Nat × Nat)} {wx : World} {s : Oper} {e : Operand → Value} {x5 x31 : Operand} (k n : Int) (hg : pO + 1 ≤ q) (hv : ∀ g, v.ownBlock = some g → g < pO) (hl : w0.heap.size ≤ pO) (hf : LM w0 A t b pw f g v l wx ∧ Blk wx pO 34 oc) (hb : Blk wx q 64 [.int .i64 0, .int .i64 0])
    (h5 : e x5 = .pointer (some ⟨q, 0, none⟩)) (h31 : e x31 = .agg #[.int .i64 k, .int .i64 n]) (hs : s.op = .store 64 x5 x31 := by rfl) :
    ∃ w2, (execOp e s).run Try.prog wx = .ok .skip w2 ∧ (LM w0 A t b pw f g v l w2 ∧ Blk w2 pO 34 oc) ∧ Blk w2 q 64 [.int .i64 k, .int .i64 n] := by
  have c0 : wx.cell? ⟨q, 0, none⟩ = some (.int .i64 0) := hb.cell 0
  have c1 : wx.cell? ⟨q, 1, none⟩ = some (.int .i64 0) := hb.cell 1
  have f0 := hb.frozen 0
  have f1 := hb.frozen 1
  have hu : Upd q wx ((wx.setCell ⟨q, 0, none⟩ (.int .i64 k)).setCell ⟨q, 1, none⟩ (.int .i64 n)) := ((Upd.refl q wx).setCell rfl _).setCell rfl _
  refine ⟨(wx.setCell ⟨q, 0, none⟩ (.int .i64 k)).setCell ⟨q, 1, none⟩ (.int .i64 n), ?_, ⟨hf.1.updE hb (fun e => by have := hv q e; omega) (by omega) hu, hf.2.upd hu (hf.2.tneA hb (by decide))⟩, ?_⟩
  · simp [execOp, hs, h5, h31, go_sem, c0, c1, f0, f1]
  · have := (hb.set 0 (.int .i64 k)).set 1 (.int .i64 n)
    simpa using this
theorem extentOf_noT (x m : Int) (hno : ¬ (InH x ∧ x % 2 = 0 ∧ 1 ≤ m ∧ m ≤ 98304 - x)) (hU : U64 x) :
    ∃ c : Int, (c == 0) = false ∧ ∀ w : World, Calls Try.prog 40 #[.int .u64 x, .int .i64 m] w fun e w' => e = .returned (.tuple #[.agg #[.int .i64 0, .int .i64 0], .int .u8 c]) ∧ Below w.heap.size w w' := extentOf_no' x m hno
set_option maxRecDepth 1000000 in
set_option maxHeartbeats 8000000 in
theorem tallies_walk (a : Option Addr) (n c : Nat) (l : List AOp) (w : World) (hs : Script w a n c l) :
    Calls Try.prog 7 #[.slice a n c] w fun e w' => e = .returned (.bool true) ∧ Below w.heap.size w w' := by
  have hn := hs.1.2.2.1.1
  have HS := hid hs
  clear hs
  have HSm := hid (fun w => small_walk a n c hn w)
  by_cases hsm : n ≤ 65536
  rotate_left
  · as_aux_lemma =>
    rw [decide_eq_false hsm] at HSm
    go_enter Try.func7, Try.ntmps7
    go_wp2_with (go_at_call 9; refine (HSm.out _).mono ?_; rintro e w' ⟨rfl, rfl⟩)
    go_ret
    exact ⟨rfl, Below.refl _ _⟩
  rw [decide_eq_true hsm] at HSm
  have HN := hid (arenaNew4_walk w)
  go_enter Try.func7, Try.ntmps7
  go_wp2_with (go_at_call 9; refine (HSm.out _).mono ?_; rintro e w' ⟨rfl, rfl⟩)
  refine HN.out.mono ?_
  rintro e w1 ⟨A, t, b, rfl, hb1, hat, lA, lt, lb⟩
  obtain ⟨pw, hpw⟩ : ∃ p, w1.heap.size = p := ⟨_, rfl⟩
  have hz := zero_arr
  have hzl := wantL_len (fun _ => 0)
  have HL0 : Hid (LI w' A t b pw 0 (.slice none 0 0) (w1.alloc (.cells (wantL fun _ => 0).toArray 74))) := hid (by
    have k1 := Blk.new w1 (wantL fun _ => 0) 74
    rw [hpw] at k1
    have hb := bel_alloc w1 (.cells (wantL fun _ => 0).toArray 74)
    have hs := hb1.size
    exact ⟨[], fun _ => 0, ⟨hat.below hb, k1, World.ownsRow_nil _ _ _ _, fun e he => (by cases he), hb1.trans (hb.mono hb1.size), ⟨lA, lt, lb, by omega⟩⟩, fun j _ => rfl, Nat.zero_le _⟩)
  clear hb1 hat lA lt lb HN HSm
  generalize (wantL fun _ => 0) = Z at hz hzl HL0
  go_upto_region 7 with fail
  generalize w1.alloc (.cells Z.toArray 74) = w2 at HL0 ⊢
  clear hz hzl hpw
  go_loopw [4, 32] (fun v4 v wr => ∃ i : Nat, i ≤ n ∧ v = .int .i64 (i : Int) ∧ ∃ a4 n4 c4, v4 = .slice a4 n4 c4 ∧ Hid (LI w' A t b pw i (.slice a4 n4 c4) wr)) (fun _ v _ => n - (intOf v).toNat)
  case atStart => exact ⟨0, by omega, rfl, none, 0, 0, rfl, HL0⟩
  case round =>
  clear HL0
  obtain ⟨i, hi, rfl, a4, n4, c4, rfl, HLI⟩ := hrel
  obtain ⟨L, f, hlm, hnt, hln⟩ := HLI.out
  have HLM := hid hlm
  have Hnt := hid hnt
  have HLn0 := hid hln
  clear hlm hnt hln HLI
  have hn4 : n4 ≤ 65536 := by have := HLM.out.oh.len; have := HLn0.out; omega
  obtain ⟨wo, hwo⟩ : ∃ wo, wo = wr := ⟨_, rfl⟩
  subst hwo
  by_cases hin : i < n
  rotate_left
  · as_aux_lemma =>
    have di : decide ((i : Int) < (n : Int)) = false := decide_eq_false (by omega)
    have HWk := hid HLM.out.wk
    have HIx := hid (fun (q : Nat) (hq : q < 2048) (wz : World) => idx_arr (wantL f).toArray q hq ((f q : Nat) : Int) (by simpa using wantL_get f hq) wz)
    have Hlen := hid (wantL_len f)
    obtain ⟨Z, hZ⟩ : ∃ Z, wantL f = Z := ⟨_, rfl⟩
    rw [hZ] at HWk HIx Hlen
    clear hZ
    have HIn : Hid ((Try.prog.info? 74).map (·.size) = some Z.length) := hid (by rw [Hlen.out]; exact info_arr)
    go_upto_region 43 with fail
    refine wp_region_lit ?_
    refine wpList_load_blk rfl 74 _ rfl pw rfl Z HWk.out _ Try.underlying74 rfl HIn.out ?_
    go_wp2_with fail
    clear HWk HIn Hlen
    go_loopw [171] (fun v wr => ∃ q : Nat, q ≤ 2048 ∧ v = .int .i64 (q : Int) ∧ Hid (LM w' A t b pw f f (.slice a4 n4 c4) L wr)) (fun v _ => 2048 - (intOf v).toNat)
    case atStart => exact ⟨0, by omega, rfl, HLM⟩
    case round =>
    clear HLM
    obtain ⟨q, hq, rfl, HK⟩ := hrel
    by_cases hql : q < 2048
    rotate_left
    · as_aux_lemma =>
      have dq : decide ((q : Int) < 2048) = false := decide_eq_false (by omega)
      go_wp2
      go_ret
      exact ⟨rfl, HK.out.bel⟩
    as_aux_lemma =>
    have dq : decide ((q : Int) < 2048) = true := decide_eq_true (by omega)
    have hqi : (q : Int) < 2048 := by omega
    have hix := fun wz => HIx.out q hql wz
    obtain ⟨fq, hfq⟩ : ∃ x, f q = x := ⟨_, rfl⟩
    rw [hfq] at hix
    have Hfq : Hid (fq = nT L q ∧ f q = fq) := hid ⟨by rw [← hfq]; exact Hnt.out q hql, hfq⟩
    have hf16 : fq < 16 := by rw [← hfq]; exact f_le HK.out hql
    clear hfq
    have HLL := hid HK.out.oh.len
    go_upto_region 48 with fail
    go_loopw [21, 177] (fun v u wr => ∃ c p : Nat, v = .int .i64 (c : Int) ∧ u = .int .i64 (p : Int) ∧ p ≤ n4 ∧ c ≤ p ∧ Hid (c = nT (L.take p) q ∧ LM w' A t b pw f f (.slice a4 n4 c4) L wr)) (fun _ u _ => n4 - (intOf u).toNat)
    case atStart => exact ⟨0, 0, rfl, rfl, by omega, Nat.le_refl _, hid ⟨rfl, HK.out⟩⟩
    case round =>
    clear HK
    obtain ⟨c0, p, rfl, rfl, hp, hcp, HK⟩ := hrel
    by_cases hpl : p < n4
    · as_aux_lemma =>
      have dp : decide ((p : Int) < (n4 : Int)) = true := decide_eq_true (by omega)
      have hpi : (p : Int) < (n4 : Int) := by omega
      obtain ⟨x, hx, b2, off2, rfl, hbl2, hcs⟩ := (HK.out.2.oh.row (by have := HLL.out; omega)).cell hpl
      obtain ⟨k', n'⟩ := x
      have q0 : wr.cell? ⟨b2, off2 + p * 2, none⟩ = some (.int .i64 (k' : Int)) := by simpa [exC] using hcs 0 (by omega)
      have q1 : wr.cell? ⟨b2, off2 + p * 2 + 1, none⟩ = some (.int .i64 (n' : Int)) := by simpa [exC] using hcs 1 (by omega)
      have HEk : Hid (EOk k' n') := hid (HK.out.2.ok (k', n') (List.mem_of_getElem? hx))
      have HT : Hid (nT (L.take (p + 1)) q = nT (L.take p) q + (tch (k', n') q).toNat) := hid (by
        unfold nT
        rw [List.take_add_one, hx, List.countP_append]
        simp only [Option.toList_some, List.countP_singleton]
        cases tch (k', n') q <;> rfl)
      have HFl := hid (fun wz => extFirst_nat HEk.out wz)
      have HLl := hid (fun wz => extLast_nat HEk.out wz)
      have Htch : Hid (tch (k', n') q = (decide (loL k' ≤ q) && decide (q ≤ hiL k' n'))) := hid rfl
      clear hx hcs hbl2
      generalize loL k' = lo at HFl Htch
      generalize hiL k' n' = la at HLl Htch
      obtain ⟨pe, hpe⟩ : ∃ p, wr.heap.size = p := ⟨_, rfl⟩
      go_upto_region 50 with fail
      obtain ⟨w5, hw5⟩ : ∃ w5, wr.alloc (.cells #[.int .i64 (k' : Int), .int .i64 (n' : Int)] 64) = w5 := ⟨_, rfl⟩
      have H5 : Hid (LM w' A t b pw f f (.slice (some ⟨b2, off2, none⟩) n4 c4) L w5 ∧ Blk w5 pe 64 [.int .i64 (k' : Int), .int .i64 (n' : Int)]) := hid (by
        have k1 := Blk.new wr [.int .i64 (k' : Int), .int .i64 (n' : Int)] 64
        rw [hpe] at k1
        rw [← hw5]
        exact ⟨HK.out.2.below (bel_alloc wr _), k1⟩)
      have Hc := hid HK.out.1
      (try simp only [hw5])
      clear hw5 hpe HK q0 q1
      have e0 : w5.cell? ⟨pe, 0, none⟩ = some (.int .i64 (k' : Int)) := H5.out.2.cell 0
      have e1 : w5.cell? ⟨pe, 1, none⟩ = some (.int .i64 (n' : Int)) := H5.out.2.cell 1
      go_wp2_with fail
      refine (HFl.out _).mono ?_
      rintro e w6 ⟨rfl, hb6⟩
      have H6 : Hid (LM w' A t b pw f f (.slice (some ⟨b2, off2, none⟩) n4 c4) L w6 ∧ Blk w6 pe 64 [.int .i64 (k' : Int), .int .i64 (n' : Int)]) := hid ⟨H5.out.1.below hb6, H5.out.2.below hb6⟩
      clear hb6 H5 e0 e1 HFl
      have e0 : w6.cell? ⟨pe, 0, none⟩ = some (.int .i64 (k' : Int)) := H6.out.2.cell 0
      have e1 : w6.cell? ⟨pe, 1, none⟩ = some (.int .i64 (n' : Int)) := H6.out.2.cell 1
      by_cases hlq : lo ≤ q
      rotate_left
      · as_aux_lemma =>
        have dl : decide ((lo : Int) ≤ (q : Int)) = false := decide_eq_false (by omega)
        have HF : Hid (c0 = nT (L.take (p + 1)) q ∧ LM w' A t b pw f f (.slice (some ⟨b2, off2, none⟩) n4 c4) L w6) := hid ⟨by
          rw [HT.out, Htch.out, decide_eq_false hlq, Bool.false_and, ← Hc.out]
          rfl, H6.out.1⟩
        clear H6 HT Htch Hc
        go_wp2
        exact ⟨⟨c0, p + 1, rfl, by go_num, by omega, by omega, HF⟩, by simp [intOf]; omega⟩
      have dl : decide ((lo : Int) ≤ (q : Int)) = true := decide_eq_true (by omega)
      go_wp2_with fail
      refine (HLl.out _).mono ?_
      rintro e w7 ⟨rfl, hb7⟩
      have H7 := hid (H6.out.1.below hb7)
      clear hb7 H6 e0 e1 HLl
      by_cases hqla : q ≤ la
      · as_aux_lemma =>
        have dl2 : decide ((q : Int) ≤ (la : Int)) = true := decide_eq_true (by omega)
        have HF : Hid (c0 + 1 = nT (L.take (p + 1)) q ∧ LM w' A t b pw f f (.slice (some ⟨b2, off2, none⟩) n4 c4) L w7) := hid ⟨by
          rw [HT.out, Htch.out, decide_eq_true hlq, decide_eq_true hqla, ← Hc.out]
          rfl, H7.out⟩
        clear H7 HT Htch Hc
        go_wp2
        exact ⟨⟨c0 + 1, p + 1, by go_num, by go_num, by omega, by omega, HF⟩, by simp [intOf]; omega⟩
      · as_aux_lemma =>
        have dl2 : decide ((q : Int) ≤ (la : Int)) = false := decide_eq_false (by omega)
        have HF : Hid (c0 = nT (L.take (p + 1)) q ∧ LM w' A t b pw f f (.slice (some ⟨b2, off2, none⟩) n4 c4) L w7) := hid ⟨by
          rw [HT.out, Htch.out, decide_eq_false hqla, Bool.and_false, ← Hc.out]
          rfl, H7.out⟩
        clear H7 HT Htch Hc
        go_wp2
        exact ⟨⟨c0, p + 1, rfl, by go_num, by omega, by omega, HF⟩, by simp [intOf]; omega⟩
    as_aux_lemma =>
    have dp : decide ((p : Int) < (n4 : Int)) = false := decide_eq_false (by omega)
    have hc0 : c0 = fq := by
      have h1 := HK.out.1
      rw [List.take_of_length_le (by have := HLL.out; omega)] at h1
      rw [h1, Hfq.out.1]
    subst hc0
    have HTa := hid (tally_in HK.out.2.ar q hql)
    rw [Hfq.out.2] at HTa
    have HM := hid HK.out.2
    clear HK Hfq hix
    have dne : ((c0 : Int) != (c0 : Int)) = false := by simp
    go_wp2_with fail
    refine HTa.out.mono ?_
    rintro e w8 ⟨rfl, hb8⟩
    have HM8 := hid (HM.out.below hb8)
    clear hb8 HM HTa
    go_wp2
    exact ⟨⟨q + 1, by omega, by go_num, HM8⟩, by simp [intOf]; omega⟩
  have di : decide ((i : Int) < (n : Int)) = true := decide_eq_true (by omega)
  have hii : (i : Int) < (n : Int) := by omega
  obtain ⟨o, ho, hok, bb, off, rfl, hb, c0, c1, c2, c3⟩ := (HS.out.below HLM.out.bel).at hin
  obtain ⟨kind, oa, ob, oc⟩ := o
  obtain ⟨hk0, hk1, ha, hb', hc'⟩ := hok
  dsimp only at c0 c1 c2 c3 ha hb' hc' hk0 hk1
  have HA := hid ha
  have HBo := hid hb'
  have HCo := hid hc'
  clear ho ha hb' hc'
  obtain ⟨pO, hpO⟩ : ∃ p, wo.heap.size = p := ⟨_, rfl⟩
  go_upto_region 9 with fail
  obtain ⟨wa, hwa⟩ : ∃ wa, wo.alloc (.cells #[.int .u8 kind, .int .u64 oa, .int .u64 ob, .int .u64 oc] 34) = wa := ⟨_, rfl⟩
  have HE : Hid (LM w' A t b pw f f (.slice a4 n4 c4) L wa ∧ Blk wa pO 34 [.int .u8 kind, .int .u64 oa, .int .u64 ob, .int .u64 oc]) := hid (by
    have k1 := Blk.new wo [.int .u8 kind, .int .u64 oa, .int .u64 ob, .int .u64 oc] 34
    rw [hpO] at k1
    rw [← hwa]
    exact ⟨HLM.out.below (bel_alloc wo _), k1⟩)
  have HOw : Hid (∀ g, (Value.slice a4 n4 c4).ownBlock = some g → g < pO) := hid (fun g hg => by obtain ⟨_, cs, kb⟩ := HLM.out.oh.blk hg; have := kb.lt; omega)
  have hlw : w'.heap.size ≤ pO := by rw [← hpO]; exact HLM.out.bel.size
  try rw [hwa]
  clear hwa c0 c1 c2 c3 hpO HLM
  by_cases hf : InH oa ∧ oa % 2 = 0 ∧ 1 ≤ wrap64 ob ∧ wrap64 ob ≤ 98304 - oa
  rotate_left
  · as_aux_lemma =>
    obtain ⟨cc, hcc, hcall⟩ := extentOf_noT oa (wrap64 ob) hf HA.out
    have HNu := hid (fun w => number_walk ob HBo.out w)
    have HXo := hid hcall
    clear hcall hf
    generalize wrap64 ob = z at *
    refine wp_region_late (C := fun wz => LM w' A t b pw f f (.slice a4 n4 c4) L wz ∧ Blk wz pO 34 [.int .u8 kind, .int .u64 oa, .int .u64 ob, .int .u64 oc]) (n := 9) (j := 8) (B := pO + 1) (t := 64) (zs := [.int .i64 0, .int .i64 0]) (vs := [.int .i64 0, .int .i64 0]) rfl rfl rfl (by kernel_rfl) (by kernel_rfl) (by kernel_rfl) (by kernel_rfl) (by kernel_rfl) ?hr2 (fun _ _ h hb => ⟨h.1.below hb, h.2.below hb⟩) (fun _ h => h.2.lt) HE.out ?hx2
    case hr2 =>
      intro a w
      simp [go_sem]
    apply Exists.intro
    refine ⟨?_, ?_, ?_⟩
    · intro X W hne hX hI
      have kb1 : ∀ x, (W x).cell? ⟨pO, 1, none⟩ = some (.int .u64 oa) := fun x => (hX x).2.cell 1
      have kb2 : ∀ x, (W x).cell? ⟨pO, 2, none⟩ = some (.int .u64 ob) := fun x => (hX x).2.cell 2
      have HI := hid hI
      clear hI hX
      dsimp only [List.take]
      repeat (go_big_quiet_step (first
        | (go_at_call 22; exact Calls.class_same (HNu.out _))
        | (go_at_call 40; exact Calls.class_of HI.out (HXo.out _))))
      exact wpQuiet_nil rfl
    · intro q wx hg HX hbl
      exact storeT 0 0 hg HOw.out hlw HX hbl rfl rfl
    · intro q wx hg HX hbl
      dsimp only [List.drop]
      have HFin : Hid (LI w' A t b pw (i + 1) (.slice a4 n4 c4) wx) := hid ⟨L, f, HX.1, Hnt.out, by have := HLn0.out; omega⟩
      have dcc : (cc != 0) = true := by unfold bne; rw [hcc]; rfl
      clear HX hbl HXo HE HNu
      go_wp2
      exact ⟨⟨i + 1, by omega, by go_num, a4, n4, c4, rfl, HFin⟩, by simp [intOf]; omega⟩
  as_aux_lemma =>
  obtain ⟨hI, hev, hz1, hz2⟩ := hf
  obtain ⟨i0, i1⟩ := hI
  obtain ⟨k, rfl⟩ : ∃ k : Nat, oa = 65536 + (k : Int) := ⟨(oa - 65536).toNat, by omega⟩
  have HNu := hid (fun w => number_walk ob HBo.out w)
  obtain ⟨nn, hnn⟩ : ∃ nn : Nat, wrap64 ob = (nn : Int) := ⟨(wrap64 ob).toNat, by omega⟩
  rw [hnn] at hz1 hz2
  have HEk : Hid (EOk k nn) := hid ⟨by omega, by omega, by omega⟩
  rw [hnn] at HNu
  clear hnn hz1 hz2 hev i0 i1
  have HXo := hid (fun w => extentOf_nat HEk.out w)
  refine wp_region_late (C := fun wz => LM w' A t b pw f f (.slice a4 n4 c4) L wz ∧ Blk wz pO 34 [.int .u8 kind, .int .u64 (65536 + (k : Int)), .int .u64 ob, .int .u64 oc]) (n := 9) (j := 8) (B := pO + 1) (t := 64) (zs := [.int .i64 0, .int .i64 0]) (vs := [.int .i64 (k : Int), .int .i64 (nn : Int)]) rfl rfl rfl (by kernel_rfl) (by kernel_rfl) (by kernel_rfl) (by kernel_rfl) (by kernel_rfl) ?hr3 (fun _ _ h hb => ⟨h.1.below hb, h.2.below hb⟩) (fun _ h => h.2.lt) HE.out ?hx3
  case hr3 =>
    intro a w
    simp [go_sem]
  apply Exists.intro
  refine ⟨?_, ?_, ?_⟩
  · intro X W hne hX hI
    have kb1 : ∀ x, (W x).cell? ⟨pO, 1, none⟩ = some (.int .u64 (65536 + (k : Int))) := fun x => (hX x).2.cell 1
    have kb2 : ∀ x, (W x).cell? ⟨pO, 2, none⟩ = some (.int .u64 ob) := fun x => (hX x).2.cell 2
    have HI := hid hI
    clear hI hX
    dsimp only [List.take]
    repeat (go_big_quiet_step (first
      | (go_at_call 22; exact Calls.class_same (HNu.out _))
      | (go_at_call 40; exact Calls.class_of HI.out (HXo.out _))))
    exact wpQuiet_nil rfl
  · intro q wx hg HX hbl
    exact storeT (k : Int) (nn : Int) hg HOw.out hlw HX hbl rfl rfl
  · intro qe wx hg HX hbl
    dsimp only [List.drop]
    have HLR0 : Hid (LR w' A t b pw pO qe [.int .u8 kind, .int .u64 (65536 + (k : Int)), .int .u64 ob, .int .u64 oc] k nn f f (.slice a4 n4 c4) L wx) := hid ⟨HX.1, HX.2, hbl, by omega, fun e => by have := HOw.out qe e; omega⟩
    clear HX hbl HXo HE HNu
    obtain ⟨w3, hw3⟩ : ∃ w3, w3 = wx := ⟨_, rfl⟩
    subst hw3
    have k0 : w3.cell? ⟨pO, 0, none⟩ = some (.int .u8 kind) := HLR0.out.po.cell 0
    rcases (by omega : kind % 2 = 0 ∨ kind % 2 = 1) with hpar | hpar
    · as_aux_lemma =>
      have hmod : kind.tmod 2 = 0 := by rw [Int.tmod_eq_emod_of_nonneg hk0]; exact hpar
      have HFl := hid (fun wz => extFirst_nat HEk.out wz)
      have HLl := hid (fun wz => extLast_nat HEk.out wz)
      have HAd : Hid (∀ wz, Calls Try.prog 41 #[.agg #[.int .i64 (k : Int), .int .i64 (nn : Int)]] wz fun e w' => e = .returned (.int .u64 (65536 + (k : Int))) ∧ Below wz.heap.size wz w') := hid (fun wz => extAddr_walk (k : Int) (nn : Int) HEk.out.ext wz)
      have HOc := hid (fun (wz : World) (hz : AT A t b f wz) => occupy_walk hz HEk.out)
      obtain ⟨hlo1, hla1⟩ := HEk.out.lo
      have Hf16 : Hid (∀ q, q < 2048 → f q < 16) := hid (fun q hq => f_le HLR0.out.lm hq)
      have Hnt2 : Hid (∀ j, j < 2048 → incR (loL k) (hiL k nn + 1) f j = nT (L ++ [(k, nn)]) j) := hid (fun j hj => by
        rw [nT_app]
        unfold incR
        rw [Hnt.out j hj])
      obtain ⟨lo, hlo⟩ : ∃ x, loL k = x := ⟨_, rfl⟩
      obtain ⟨la, hla⟩ : ∃ x, hiL k nn = x := ⟨_, rfl⟩
      rw [hlo] at HFl HOc hlo1 Hnt2
      rw [hla] at HLl HOc hlo1 hla1 Hnt2
      clear hlo hla
      have e0 : w3.cell? ⟨qe, 0, none⟩ = some (.int .i64 (k : Int)) := HLR0.out.qb.cell 0
      have e1 : w3.cell? ⟨qe, 1, none⟩ = some (.int .i64 (nn : Int)) := HLR0.out.qb.cell 1
      go_upto_region 13 with fail
      go_wp2_with fail
      refine (HFl.out _).mono ?_
      rintro e w4 ⟨rfl, hb4⟩
      have HLR1 := hid (HLR0.out.below hb4)
      clear hb4 HLR0 k0 e0 e1
      go_upto_region 14 with fail
      go_loopw [10, 11] (fun v u wr => ∃ (B : Bool) (q : Nat), v = .bool B ∧ u = .int .i64 (q : Int) ∧ lo ≤ q ∧ q ≤ la + 1 ∧ Hid ((B = true ↔ ∃ j, lo ≤ j ∧ j < q ∧ f j = 15) ∧ LR w' A t b pw pO qe [.int .u8 kind, .int .u64 (65536 + (k : Int)), .int .u64 ob, .int .u64 oc] k nn f f (.slice a4 n4 c4) L wr)) (fun _ u _ => la + 2 - (intOf u).toNat)
      case atStart => exact ⟨false, lo, rfl, rfl, Nat.le_refl _, by omega, hid ⟨⟨fun h => (by cases h), fun ⟨j, h1, h2, _⟩ => (by omega)⟩, HLR1.out⟩⟩
      case round =>
      clear HLR1
      obtain ⟨B, q, rfl, rfl, hq1, hq2, HK⟩ := hrel
      have e0 : wr.cell? ⟨qe, 0, none⟩ = some (.int .i64 (k : Int)) := HK.out.2.qb.cell 0
      have e1 : wr.cell? ⟨qe, 1, none⟩ = some (.int .i64 (nn : Int)) := HK.out.2.qb.cell 1
      go_wp2_with fail
      refine (HLl.out _).mono ?_
      rintro e w5 ⟨rfl, hb5⟩
      have HK1 := hid (And.intro HK.out.1 (HK.out.2.below hb5))
      clear hb5 HK e0 e1
      by_cases hql : q ≤ la
      · as_aux_lemma =>
        have dq : decide ((q : Int) ≤ (la : Int)) = true := decide_eq_true (by omega)
        have hq2048 : (q : Int) < 2048 := by omega
        obtain ⟨fq, hfq⟩ : ∃ x, f q = x := ⟨_, rfl⟩
        have c0 : w5.cell? ⟨pw, q, none⟩ = some (.int .i64 (fq : Int)) := by rw [← hfq]; exact (HK1.out.2.lm.cell (by omega)).1
        have HR := hid HK1.out.2
        cases B with
        | true =>
          have HF : Hid (∃ j, lo ≤ j ∧ j < q + 1 ∧ f j = 15) := hid (by obtain ⟨j, h1, h2, h3⟩ := HK1.out.1.1 rfl; exact ⟨j, h1, by omega, h3⟩)
          clear HK1 hfq
          go_wp2
          exact ⟨⟨true, q + 1, rfl, by go_num, by omega, by omega, hid ⟨⟨fun _ => HF.out, fun _ => rfl⟩, HR.out⟩⟩, by simp [intOf]; omega⟩
        | false =>
          by_cases h15 : fq = 15
          · have d15 : ((fq : Int) == 15) = true := by simp; omega
            have HF : Hid (∃ j, lo ≤ j ∧ j < q + 1 ∧ f j = 15) := hid ⟨q, hq1, by omega, by rw [hfq]; exact h15⟩
            clear HK1 hfq h15
            go_wp2
            exact ⟨⟨true, q + 1, rfl, by go_num, by omega, by omega, hid ⟨⟨fun _ => HF.out, fun _ => rfl⟩, HR.out⟩⟩, by simp [intOf]; omega⟩
          · have d15 : ((fq : Int) == 15) = false := by simp; omega
            have HF : Hid (¬ ∃ j, lo ≤ j ∧ j < q + 1 ∧ f j = 15) := hid (fun ⟨j, h1, h2, h3⟩ => by
              by_cases hjq : j = q
              · rw [hjq, hfq] at h3; exact absurd h3 h15
              · exact absurd (HK1.out.1.2 ⟨j, h1, by omega, h3⟩) (by simp))
            clear HK1 hfq h15
            go_wp2
            exact ⟨⟨false, q + 1, rfl, by go_num, by omega, by omega, hid ⟨⟨fun h => (by cases h), fun h => absurd h HF.out⟩, HR.out⟩⟩, by simp [intOf]; omega⟩
      as_aux_lemma =>
      have dq : decide ((q : Int) ≤ (la : Int)) = false := decide_eq_false (by omega)
      have hqe : q = la + 1 := by omega
      have HB : Hid (B = true ↔ ∃ j, lo ≤ j ∧ j < la + 1 ∧ f j = 15) := hid (by rw [← hqe]; exact HK1.out.1)
      have HR := hid HK1.out.2
      clear HK1
      go_upto_region 17 with fail
      refine wp_region_heavy (fun wz => Blk wz qe 64 [.int .i64 (k : Int), .int .i64 (nn : Int)]) 6 [0, 1, 3, 4] [2, 5] rfl (by kernel_rfl) (by kernel_rfl) (fun d _ _ _ _ h => by cases d <;> exact h) (HR.out.qb.below (Drew.below ⟨1, rfl⟩ _)) ?_
      apply Exists.intro
      refine ⟨?_, ?_⟩
      · intro W hW
        have p0 : ∀ u, (W u).cell? ⟨qe, 0, none⟩ = some (.int .i64 (k : Int)) := fun u => (hW u).cell 0
        have p1 : ∀ u, (W u).cell? ⟨qe, 1, none⟩ = some (.int .i64 (nn : Int)) := fun u => (hW u).cell 1
        clear hW
        simp only [List.take, opsAt, List.drop, List.cons_append, List.nil_append]
        repeat (go_big_quiet_step (fail))
        exact rfl
      simp only [List.take, List.drop, opsAt, List.cons_append, List.nil_append, wpHv]
      have HRd : Hid (LR w' A t b pw pO qe [.int .u8 kind, .int .u64 (65536 + (k : Int)), .int .u64 ob, .int .u64 oc] k nn f f (.slice a4 n4 c4) L w5.drew) := hid (HR.out.below (Drew.below ⟨1, rfl⟩ _))
      generalize w5.drew = wd at HRd ⊢
      clear HR
      go_wp2_with fail
      refine (HAd.out wd).mono ?_
      rintro e w6 ⟨rfl, hb6⟩
      have HR6 := hid (HRd.out.below hb6)
      clear hb6 HRd HAd
      go_wp2_with fail
      refine ⟨HR6.out.qb, ?_⟩
      go_wp2_with fail
      refine (HOc.out w6 HR6.out.lm.ar).mono ?_
      rintro e w7 ⟨cO, rfl, HX⟩
      clear HOc
      cases B with
      | true =>
        as_aux_lemma =>
        have HF : Hid (cO = 10 ∧ LR w' A t b pw pO qe [.int .u8 kind, .int .u64 (65536 + (k : Int)), .int .u64 ob, .int .u64 oc] k nn f f (.slice a4 n4 c4) L w7) := hid (by
          rcases HX.out with ⟨x1, x2, x3, x4⟩ | ⟨x1, x2, x3, x4⟩
          · exact ⟨x1, HR6.out.ua x3 x4⟩
          · obtain ⟨j, h1, h2, h3⟩ := HB.out.1 rfl
            exact absurd h3 (x2 j h1 h2))
        have hcO := HF.out.1
        subst hcO
        have HQ := hid HF.out.2.qb
        have HFin : Hid (LI w' A t b pw (i + 1) (.slice a4 n4 c4) w7) := hid ⟨L, f, HF.out.2.lm, Hnt.out, by have := HLn0.out; omega⟩
        clear HX HF HR6 HB
        go_wp2_with fail
        refine ⟨HQ.out, ?_⟩
        simp only [QN]
        go_wp2
        exact ⟨⟨i + 1, by omega, by go_num, a4, n4, c4, rfl, HFin⟩, by simp [intOf]; omega⟩
      | false =>
      as_aux_lemma =>
      have HF : Hid (cO = 0 ∧ LR w' A t b pw pO qe [.int .u8 kind, .int .u64 (65536 + (k : Int)), .int .u64 ob, .int .u64 oc] k nn (incR lo (la + 1) f) f (.slice a4 n4 c4) L w7) := hid (by
        rcases HX.out with ⟨x1, x2, x3, x4⟩ | ⟨x1, x2, x3, x4⟩
        · obtain ⟨j, h1, h2, h3⟩ := x2
          exact absurd (HB.out.2 ⟨j, h1, h2, h3⟩) (by simp)
        · exact ⟨x1, HR6.out.ua x3 x4⟩)
      have hcO := HF.out.1
      subst hcO
      have HR7 := hid HF.out.2
      have HQ := hid HR7.out.qb
      clear HX HF HR6 HB
      go_wp2_with fail
      refine ⟨HQ.out, ?_⟩
      simp only [QN]
      clear HQ
      have e0 : w7.cell? ⟨qe, 0, none⟩ = some (.int .i64 (k : Int)) := HR7.out.qb.cell 0
      have e1 : w7.cell? ⟨qe, 1, none⟩ = some (.int .i64 (nn : Int)) := HR7.out.qb.cell 1
      go_upto_region 21 with fail
      obtain ⟨ie, hie, hze, hsz1, hby1⟩ := info_ext
      have IE := hid (And.intro hie (And.intro hze (And.intro hsz1 hby1)))
      clear hie hze hsz1 hby1
      obtain ⟨w8, hw8⟩ : ∃ w8, w7.alloc (.cells #[.int .i64 (k : Int), .int .i64 (nn : Int)] 64) = w8 := ⟨_, rfl⟩
      have HR8 : Hid (LR w' A t b pw pO qe [.int .u8 kind, .int .u64 (65536 + (k : Int)), .int .u64 ob, .int .u64 oc] k nn (incR lo (la + 1) f) f (.slice a4 n4 c4) L w8) := hid (by rw [← hw8]; exact HR7.out.below (bel_alloc w7 _))
      have HNw := hid (newRow w7 (exC (k, nn)) 64 w7.heap.size rfl)
      rw [show (w7.alloc (.cells (exC (k, nn)).toArray 64)) = w8 from hw8] at HNw
      obtain ⟨p6, hp6⟩ : ∃ p, w7.heap.size = p := ⟨_, rfl⟩
      rw [hp6] at HNw
      have hLl : L.length ≤ 65536 := by have := HLn0.out; omega
      go_wp2_with (at_builtin; refine stopHereA ?_)
      intro _
      (try simp only [hw8])
      refine wpList_append_row _ rfl (.tmp 85) (.tmp 87) 73 rfl w'.heap.size 64 ie (.agg #[.int .i64 0, .int .i64 0]) 2 16 Try.underlying73 IE.out.1 IE.out.2.1 IE.out.2.2.1 IE.out.2.2.2 rfl (by decide) (.slice a4 n4 c4) _ _ (by simp [Act.eval, Act.put]; done) HR8.out.lm.oh (some ⟨p6, 0, none⟩) 1 1 (exC (k, nn)) (by simp [Act.eval, Act.put]; done) rfl (fun h => by cases h) HNw.out (by have := exC_one [(k, nn)]; simpa using this) (by omega) (by decide) HR8.out.lm.bel.size ?_
      intro v9 w9 hown9 hb9 hk9 hg9
      have HR9 : Hid (LR w' A t b pw pO qe [.int .u8 kind, .int .u64 (65536 + (k : Int)), .int .u64 ob, .int .u64 oc] k nn (incR lo (la + 1) f) f v9 (L ++ [(k, nn)]) w9) := hid (HR8.out.row (by
        have := hown9
        rw [show L.flatMap exC ++ exC (k, nn) = (L ++ [(k, nn)]).flatMap exC by simp] at this
        unfold OH
        rw [List.length_append]
        exact this) hb9 hk9 hg9 (fun e he => by
        rcases List.mem_append.1 he with h | h
        · exact HR8.out.lm.ok e h
        · simp at h
          rw [h]
          exact HEk.out))
      clear hown9 hb9 hk9 hg9 HR8 HNw hw8 hp6 HR7 e0 e1
      obtain ⟨a9, n9, c9, h9⟩ := HR9.out.lm.oh.shape
      subst h9
      have e0 : w9.cell? ⟨qe, 0, none⟩ = some (.int .i64 (k : Int)) := HR9.out.qb.cell 0
      have e1 : w9.cell? ⟨qe, 1, none⟩ = some (.int .i64 (nn : Int)) := HR9.out.qb.cell 1
      go_upto_region 22 with fail
      go_wp2_with fail
      refine (HFl.out _).mono ?_
      rintro e w10 ⟨rfl, hb10⟩
      have HR10 := hid (HR9.out.below hb10)
      clear hb10 HR9 e0 e1 HFl
      have HSt : Hid (∀ j, j < 2048 → f j = prw f (incR lo (la + 1) f) lo j) := hid (fun j _ => by
        unfold prw
        split
        · have : inR lo (la + 1) j = false := by
            cases hr : inR lo (la + 1) j
            · rfl
            · have := inR_iff.1 hr
              omega
          unfold incR
          rw [this]
          rfl
        · rfl)
      have HEn : Hid (∀ j, j < 2048 → prw f (incR lo (la + 1) f) (la + 1) j = incR lo (la + 1) f j) := hid (fun j _ => by
        unfold prw
        split
        · rfl
        · have : inR lo (la + 1) j = false := by
            cases hr : inR lo (la + 1) j
            · rfl
            · have := inR_iff.1 hr
              omega
          unfold incR
          rw [this]
          rfl)
      have HFq : Hid (∀ q, lo ≤ q → q < la + 1 → ((incR lo (la + 1) f q : Nat) : Int) = (f q : Int) + 1) := hid (fun q h1 h2 => by
        unfold incR
        rw [inR_iff.2 ⟨h1, h2⟩]
        rfl)
      go_upto_region 23 with fail
      go_loopw [13] (fun u wr => ∃ q : Nat, u = .int .i64 (q : Int) ∧ lo ≤ q ∧ q ≤ la + 1 ∧ Hid (LR w' A t b pw pO qe [.int .u8 kind, .int .u64 (65536 + (k : Int)), .int .u64 ob, .int .u64 oc] k nn (incR lo (la + 1) f) (prw f (incR lo (la + 1) f) q) (.slice a9 n9 c9) (L ++ [(k, nn)]) wr)) (fun u _ => la + 2 - (intOf u).toNat)
      case atStart => exact ⟨lo, rfl, Nat.le_refl _, by omega, hid (HR10.out.congr (fun _ _ => rfl) HSt.out)⟩
      case round =>
      clear HR10 HSt
      obtain ⟨q, rfl, hq1, hq2, HK⟩ := hrel
      have e0 : wr.cell? ⟨qe, 0, none⟩ = some (.int .i64 (k : Int)) := HK.out.qb.cell 0
      have e1 : wr.cell? ⟨qe, 1, none⟩ = some (.int .i64 (nn : Int)) := HK.out.qb.cell 1
      go_wp2_with fail
      refine (HLl.out _).mono ?_
      rintro e wl1 ⟨rfl, hbl1⟩
      have HK1 := hid (HK.out.below hbl1)
      clear hbl1 HK e0 e1
      by_cases hql : q ≤ la
      · as_aux_lemma =>
        have dq : decide ((q : Int) ≤ (la : Int)) = true := decide_eq_true (by omega)
        have hq2048 : (q : Int) < 2048 := by omega
        obtain ⟨fq, hfq⟩ : ∃ x, f q = x := ⟨_, rfl⟩
        have hf16 : fq < 16 := by rw [← hfq]; exact Hf16.out q (by omega)
        have hFq : ((incR lo (la + 1) f) q : Int) = (fq : Int) + 1 := by rw [← hfq]; exact HFq.out q hq1 (by omega)
        have hpq : prw f (incR lo (la + 1) f) q q = fq := by unfold prw; rw [if_neg (by omega)]; exact hfq
        have hpq2 : ((prw f (incR lo (la + 1) f) (q + 1) q : Nat) : Int) = (fq : Int) + 1 := by
          rw [← hFq]
          unfold prw
          rw [if_pos (by omega)]
        have c0 : wl1.cell? ⟨pw, q, none⟩ = some (.int .i64 (fq : Int)) := by rw [← hpq]; exact (HK1.out.lm.cell (by omega)).1
        have f0 : wl1.frozen? ⟨pw, q, none⟩ = false := (HK1.out.lm.cell (by omega)).2
        have HP := hid (HK1.out.put (g' := prw f (incR lo (la + 1) f) (q + 1)) (i := q) (by omega) (fun j _ => by
          by_cases e : j = q
          · rw [if_pos e, e]
          · rw [if_neg e]
            unfold prw
            by_cases h : j < q
            · rw [if_pos h, if_pos (by omega)]
            · rw [if_neg h, if_neg (by omega)]))
        rw [hpq2] at HP
        clear hpq hpq2 hFq hfq HK1
        go_wp2
        exact ⟨⟨q + 1, by go_num, by omega, by omega, HP⟩, by simp [intOf]; omega⟩
      as_aux_lemma =>
      have dq : decide ((q : Int) ≤ (la : Int)) = false := decide_eq_false (by omega)
      have hqe : q = la + 1 := by omega
      have HLR : Hid (LR w' A t b pw pO qe [.int .u8 kind, .int .u64 (65536 + (k : Int)), .int .u64 ob, .int .u64 oc] k nn (incR lo (la + 1) f) (incR lo (la + 1) f) (.slice a9 n9 c9) (L ++ [(k, nn)]) wl1) := hid (HK1.out.congr (fun _ _ => rfl) (by rw [hqe]; exact HEn.out))
      clear HK1 HEn HFq Hf16
      have Hnt := Hnt2
      have HLn : Hid ((L ++ [(k, nn)]).length ≤ i + 1) := hid (by rw [List.length_append]; have := HLn0.out; simp; omega)
      have HFl := hid (fun wz => extFirst_nat HEk.out wz)
      have HLl := hid (fun wz => extLast_nat HEk.out wz)
      obtain ⟨hlo9, hla9⟩ := HEk.out.lo
      generalize loL k = lo2 at HFl hlo9
      generalize hiL k nn = la2 at HLl hlo9 hla9
      have e0 : wl1.cell? ⟨qe, 0, none⟩ = some (.int .i64 (k : Int)) := HLR.out.qb.cell 0
      have e1 : wl1.cell? ⟨qe, 1, none⟩ = some (.int .i64 (nn : Int)) := HLR.out.qb.cell 1
      go_upto_region 36 with fail
      go_wp2_with fail
      refine (HFl.out _).mono ?_
      rintro e wt0 ⟨rfl, hbt⟩
      have HLt := hid (HLR.out.below hbt)
      clear e0 e1 hbt HLR HFl
      go_upto_region 37 with fail
      go_loopw [16] (fun v wr => ∃ z : Int, v = .int .i64 z ∧ (lo2 : Int) - 1 ≤ z ∧ z ≤ (la2 : Int) + 2 ∧ Hid (LR w' A t b pw pO qe [.int .u8 kind, .int .u64 (65536 + (k : Int)), .int .u64 ob, .int .u64 oc] k nn (incR lo (la + 1) f) (incR lo (la + 1) f) (.slice a9 n9 c9) (L ++ [(k, nn)]) wr)) (fun v _ => ((la2 : Int) + 3 - intOf v).toNat)
      case atStart => exact ⟨(lo2 : Int) - 1, by go_num, by omega, by omega, HLt⟩
      case round =>
      clear HLt
      obtain ⟨z, rfl, hz1, hz2, HK⟩ := hrel
      have e0 : wr.cell? ⟨qe, 0, none⟩ = some (.int .i64 (k : Int)) := HK.out.qb.cell 0
      have e1 : wr.cell? ⟨qe, 1, none⟩ = some (.int .i64 (nn : Int)) := HK.out.qb.cell 1
      go_wp2_with fail
      refine (HLl.out _).mono ?_
      rintro e wt1 ⟨rfl, hbt⟩
      have HK1 := hid (HK.out.below hbt)
      clear e0 e1 hbt HK
      by_cases hzl : z ≤ (la2 : Int) + 1
      rotate_left
      · as_aux_lemma =>
        have dz : decide (z ≤ (la2 : Int) + 1) = false := decide_eq_false hzl
        have HFin : Hid (LI w' A t b pw (i + 1) (.slice a9 n9 c9) wt1) := hid ⟨(L ++ [(k, nn)]), (incR lo (la + 1) f), HK1.out.lm, Hnt.out, HLn.out⟩
        clear HK1
        go_wp2
        exact ⟨⟨i + 1, by omega, by go_num, a9, n9, c9, rfl, HFin⟩, by simp [intOf]; omega⟩
      as_aux_lemma =>
      have dz : decide (z ≤ (la2 : Int) + 1) = true := decide_eq_true hzl
      by_cases hzi : 0 ≤ z ∧ z < 2048
      · as_aux_lemma =>
        obtain ⟨j, rfl⟩ : ∃ j : Nat, z = (j : Int) := ⟨z.toNat, by omega⟩
        have hj : j < 2048 := by omega
        have HTa := hid (tally_in HK1.out.lm.ar j hj)
        have hj2 : (j : Int) < 2048 := by omega
        clear hzi
        generalize hfj : (incR lo (la + 1) f) j = fj at HTa
        have Hfj := hid hfj
        clear hfj
        go_wp2_with fail
        refine HTa.out.mono ?_
        rintro e wt2 ⟨rfl, hbt⟩
        have HK2 := hid (HK1.out.below hbt)
        clear hbt HK1 HTa
        have c0 : wt2.cell? ⟨pw, j, none⟩ = some (.int .i64 (fj : Int)) := by rw [← Hfj.out]; exact (HK2.out.lm.cell hj).1
        have dne : ((fj : Int) != (fj : Int)) = false := by simp
        go_wp2
        exact ⟨⟨(j : Int) + 1, by go_num, by omega, by omega, HK2⟩, by simp [intOf]; omega⟩
      · as_aux_lemma =>
        have HTa := hid (tally_out A z hzi wt1)
        go_wp2_with fail
        refine HTa.out.mono ?_
        rintro e wt2 ⟨rfl, hw2⟩
        have hw2' := hw2.symm
        clear hw2
        subst hw2'
        clear HTa
        go_wp2
        exact ⟨⟨z + 1, by go_num, by omega, by omega, HK1⟩, by simp [intOf]; omega⟩
    · as_aux_lemma =>
      have hmod : kind.tmod 2 = 1 := by rw [Int.tmod_eq_emod_of_nonneg hk0]; exact hpar
      have k3 : w3.cell? ⟨pO, 3, none⟩ = some (.int .u64 oc) := HLR0.out.po.cell 3
      by_cases hn0 : n4 = 0
      · as_aux_lemma =>
        subst hn0
        have HLR := hid HLR0.out
        have HLn : Hid (L.length ≤ i + 1) := hid (by have := HLn0.out; omega)
        clear HLR0
        have HFl := hid (fun wz => extFirst_nat HEk.out wz)
        have HLl := hid (fun wz => extLast_nat HEk.out wz)
        obtain ⟨hlo9, hla9⟩ := HEk.out.lo
        generalize loL k = lo2 at HFl hlo9
        generalize hiL k nn = la2 at HLl hlo9 hla9
        have e0 : w3.cell? ⟨qe, 0, none⟩ = some (.int .i64 (k : Int)) := HLR.out.qb.cell 0
        have e1 : w3.cell? ⟨qe, 1, none⟩ = some (.int .i64 (nn : Int)) := HLR.out.qb.cell 1
        go_upto_region 36 with fail
        go_wp2_with fail
        refine (HFl.out _).mono ?_
        rintro e wt0 ⟨rfl, hbt⟩
        have HLt := hid (HLR.out.below hbt)
        clear e0 e1 hbt HLR HFl
        go_upto_region 37 with fail
        go_loopw [16] (fun v wr => ∃ z : Int, v = .int .i64 z ∧ (lo2 : Int) - 1 ≤ z ∧ z ≤ (la2 : Int) + 2 ∧ Hid (LR w' A t b pw pO qe [.int .u8 kind, .int .u64 (65536 + (k : Int)), .int .u64 ob, .int .u64 oc] k nn f f (.slice a4 0 c4) L wr)) (fun v _ => ((la2 : Int) + 3 - intOf v).toNat)
        case atStart => exact ⟨(lo2 : Int) - 1, by go_num, by omega, by omega, HLt⟩
        case round =>
        clear HLt
        obtain ⟨z, rfl, hz1, hz2, HK⟩ := hrel
        have e0 : wr.cell? ⟨qe, 0, none⟩ = some (.int .i64 (k : Int)) := HK.out.qb.cell 0
        have e1 : wr.cell? ⟨qe, 1, none⟩ = some (.int .i64 (nn : Int)) := HK.out.qb.cell 1
        go_wp2_with fail
        refine (HLl.out _).mono ?_
        rintro e wt1 ⟨rfl, hbt⟩
        have HK1 := hid (HK.out.below hbt)
        clear e0 e1 hbt HK
        by_cases hzl : z ≤ (la2 : Int) + 1
        rotate_left
        · as_aux_lemma =>
          have dz : decide (z ≤ (la2 : Int) + 1) = false := decide_eq_false hzl
          have HFin : Hid (LI w' A t b pw (i + 1) (.slice a4 0 c4) wt1) := hid ⟨L, f, HK1.out.lm, Hnt.out, HLn.out⟩
          clear HK1
          go_wp2
          exact ⟨⟨i + 1, by omega, by go_num, a4, 0, c4, rfl, HFin⟩, by simp [intOf]; omega⟩
        as_aux_lemma =>
        have dz : decide (z ≤ (la2 : Int) + 1) = true := decide_eq_true hzl
        by_cases hzi : 0 ≤ z ∧ z < 2048
        · as_aux_lemma =>
          obtain ⟨j, rfl⟩ : ∃ j : Nat, z = (j : Int) := ⟨z.toNat, by omega⟩
          have hj : j < 2048 := by omega
          have HTa := hid (tally_in HK1.out.lm.ar j hj)
          have hj2 : (j : Int) < 2048 := by omega
          clear hzi
          generalize hfj : f j = fj at HTa
          have Hfj := hid hfj
          clear hfj
          go_wp2_with fail
          refine HTa.out.mono ?_
          rintro e wt2 ⟨rfl, hbt⟩
          have HK2 := hid (HK1.out.below hbt)
          clear hbt HK1 HTa
          have c0 : wt2.cell? ⟨pw, j, none⟩ = some (.int .i64 (fj : Int)) := by rw [← Hfj.out]; exact (HK2.out.lm.cell hj).1
          have dne : ((fj : Int) != (fj : Int)) = false := by simp
          go_wp2
          exact ⟨⟨(j : Int) + 1, by go_num, by omega, by omega, HK2⟩, by simp [intOf]; omega⟩
        · as_aux_lemma =>
          have HTa := hid (tally_out A z hzi wt1)
          go_wp2_with fail
          refine HTa.out.mono ?_
          rintro e wt2 ⟨rfl, hw2⟩
          have hw2' := hw2.symm
          clear hw2
          subst hw2'
          clear HTa
          go_wp2
          exact ⟨⟨z + 1, by go_num, by omega, by omega, HK1⟩, by simp [intOf]; omega⟩
      as_aux_lemma =>
      have dn : decide ((n4 : Int) > 0) = true := decide_eq_true (by omega)
      have dn2 : decide (0 < (n4 : Int)) = true := decide_eq_true (by omega)
      obtain ⟨m, rfl⟩ : ∃ m : Nat, oc = (m : Int) := ⟨oc.toNat, by have := HCo.out.1; omega⟩
      obtain ⟨j, hj⟩ : ∃ j, m % n4 = j := ⟨_, rfl⟩
      have hjn : j < n4 := by rw [← hj]; exact Nat.mod_lt _ (by omega)
      have hrem : (m : Int).tmod (n4 : Int) = (j : Int) := by rw [Int.tmod_eq_emod_of_nonneg (by omega), ← hj]; omega
      have hrem2 : (m : Int) % (n4 : Int) = (j : Int) := by rw [← hj]; omega
      have hnz : ((n4 : Int) == 0) = false := by simp; omega
      clear hj
      have hLl : L.length ≤ 65536 := by have := HLn0.out; omega
      have HLen := hid HLR0.out.lm.oh.len
      rcases HLR0.out.lm.oh.take (j := j) (by omega) with ⟨q1, q2, q3⟩ | ⟨hpre, g, ha4, hc4⟩
      · exact absurd q3 hn0
      subst ha4
      have HPre := hid hpre
      clear hpre
      obtain ⟨x, hx, bb2, off2, hab, hbl2, hcs⟩ := (HLR0.out.lm.oh.row (by omega)).cell hjn
      cases hab
      obtain ⟨k', n'⟩ := x
      have q0 : w3.cell? ⟨g, j * 2, none⟩ = some (.int .i64 (k' : Int)) := by simpa [exC] using hcs 0 (by omega)
      have q1 : w3.cell? ⟨g, j * 2 + 1, none⟩ = some (.int .i64 (n' : Int)) := by simpa [exC] using hcs 1 (by omega)
      have Hx := hid hx
      have HEk' : Hid (EOk k' n') := hid (HLR0.out.lm.ok (k', n') (List.mem_of_getElem? hx))
      clear hx hcs hbl2
      have e0 : w3.cell? ⟨qe, 0, none⟩ = some (.int .i64 (k : Int)) := HLR0.out.qb.cell 0
      have y0 : w3.frozen? ⟨qe, 0, none⟩ = false := HLR0.out.qb.frozen 0
      have kb1 := HLR0.out.qb.set 0 (.int .i64 (k' : Int))
      have e1 := kb1.cell 1
      have y1 := kb1.frozen 1
      simp only [List.set_cons_zero, List.set_cons_succ, List.getElem?_cons_zero, List.getElem?_cons_succ] at e1
      have HR4 := hid (HLR0.out.setE k' n')
      clear kb1
      go_upto_region 29 with fail
      clear e0 e1 y0 y1 q0 q1 k0 k3
      generalize (w3.setCell ⟨qe, 0, none⟩ (.int .i64 (k' : Int))).setCell ⟨qe, 1, none⟩ (.int .i64 (n' : Int)) = w4 at HR4 ⊢
      have hj1 : (j : Int) < (n4 : Int) := by omega
      have hj2 : (j : Int) ≤ (c4 : Int) := by omega
      have hj3 : (j : Int) + 1 ≤ (n4 : Int) := by omega
      have hj4 : (n4 : Int) ≤ (c4 : Int) := by omega
      have hj5 : j + 1 ≤ n4 := by omega
      go_cut [4] from 102 to 123 (fun v4 wc => ∃ a9 n9 c9, v4 = .slice a9 n9 c9 ∧ Hid (LR w' A t b pw pO qe [.int .u8 kind, .int .u64 (65536 + (k : Int)), .int .u64 ob, .int .u64 (m : Int)] k' n' f f (.slice a9 n9 c9) (L.take j ++ L.drop (j + 1)) wc))
      case first =>
        as_aux_lemma =>
        refine wp_region_heavy (fun _ => True) 8 [0, 1, 2, 3, 4, 5, 6] [7] rfl (by kernel_rfl) (by kernel_rfl) (fun d _ _ _ _ h => by cases d <;> exact h) trivial ?_
        apply Exists.intro
        refine ⟨?_, ?_⟩
        · intro W hW
          clear hW
          simp only [List.take, opsAt, List.drop, List.cons_append, List.nil_append]
          repeat (go_big_quiet_step (fail))
          exact rfl
        simp only [List.take, List.drop, opsAt, List.cons_append, List.nil_append, wpHv]
        have HR5 : Hid (LR w' A t b pw pO qe [.int .u8 kind, .int .u64 (65536 + (k : Int)), .int .u64 ob, .int .u64 (m : Int)] k' n' f f (.slice (some ⟨g, 0, none⟩) n4 c4) L w4.drew) := hid (HR4.out.below (Drew.below ⟨1, rfl⟩ _))
        generalize w4.drew = w5 at HR5 ⊢
        clear HR4
        obtain ⟨ie, hie, hze, hsz1, hby1⟩ := info_ext
        have IE := hid (And.intro hie (And.intro hze (And.intro hsz1 hby1)))
        clear hie hze hsz1 hby1
        have HPre5 : Hid (OH w5 w'.heap.size (.slice (some ⟨g, 0, none⟩) j c4) (L.take j)) := hid (by
          rcases HR5.out.lm.oh.take (j := j) (by omega) with ⟨_, q2, _⟩ | ⟨hpre, _, _, _⟩
          · cases q2
          · exact hpre)
        have HRow5 := hid (HR5.out.lm.oh.row (by omega))
        have HSrc : Hid (∀ ad, (if c4 = j + 1 then some (⟨g, 0, none⟩ : Addr) else some ⟨g, (j + 1) * 2, none⟩) = some ad → ∀ jj u, ((L.drop (j + 1)).flatMap exC)[jj]? = some u → w5.cell? (ad.add jj) = some u) := hid (fun ad had jj u hu => by
          by_cases hcj : c4 = j + 1
          · rw [List.drop_eq_nil_of_le (by have := HLen.out; omega)] at hu
            simp at hu
          rw [if_neg hcj] at had
          cases had
          have hh := HRow5.out.cells (by omega) (fun _ => rfl) ⟨g, 0, none⟩ rfl ((j + 1) * 2 + jj) u (by
            conv => lhs; rw [← List.take_append_drop (j + 1) L, List.flatMap_append]
            have hk : ((L.take (j + 1)).flatMap exC).length = (j + 1) * 2 := by
              rw [length_flatMap_const (f := exC) (sz := 2) _ (fun x _ => rfl), List.length_take]
              have := HLen.out
              omega
            rw [List.getElem?_append_right (by omega), hk, Nat.add_sub_cancel_left]
            exact hu)
          by_cases hz : jj = 0
          · subst hz
            simpa [Addr.add] using hh
          · simpa [Addr.add, hz] using hh)
        have HSl : Hid ((L.drop (j + 1)).length = n4 - (j + 1)) := hid (by rw [List.length_drop, HLen.out])
        refine wpList_append_row _ rfl (.tmp 118) (.tmp 122) 73 rfl w'.heap.size 64 ie (.agg #[.int .i64 0, .int .i64 0]) 2 16 Try.underlying73 IE.out.1 IE.out.2.1 IE.out.2.2.1 IE.out.2.2.2 rfl (by decide) (.slice (some ⟨g, 0, none⟩) j c4) _ _ (by simp [Act.eval, Act.put]; done) HPre5.out (if c4 = j + 1 then some (⟨g, 0, none⟩ : Addr) else some ⟨g, (j + 1) * 2, none⟩) (n4 - (j + 1)) (c4 - (j + 1)) ((L.drop (j + 1)).flatMap exC) (by simp [Act.eval, Act.put]; done) (by rw [length_flatMap_const (f := exC) (sz := 2) _ (fun x _ => rfl), HSl.out]) (fun h => by split at h <;> cases h) HSrc.out (exC_one _) (by rw [List.length_take]; omega) (by decide) HR5.out.lm.bel.size ?_
        intro v9 w9 hown9 hb9 hk9 hg9
        have HR9 : Hid (LR w' A t b pw pO qe [.int .u8 kind, .int .u64 (65536 + (k : Int)), .int .u64 ob, .int .u64 (m : Int)] k' n' f f v9 (L.take j ++ L.drop (j + 1)) w9) := hid (HR5.out.row (by
          have := hown9
          rw [← HSl.out, ← List.flatMap_append, ← List.length_append] at this
          exact this) hb9 hk9 hg9 (fun e he => HR5.out.lm.ok e (by
          rcases List.mem_append.1 he with h | h
          · exact List.mem_of_mem_take h
          · exact List.mem_of_mem_drop h)))
        clear hown9 hb9 hk9 hg9 HPre5 HRow5 HSrc HSl HPre
        obtain ⟨a9, n9, c9, h9⟩ := HR9.out.lm.oh.shape
        subst h9
        go_wp2_with fail
        all_goals (refine ⟨trivial, ?_⟩)
        all_goals (simp only [QN])
        all_goals (go_wp2_with fail)
        all_goals go_meet
        all_goals (first | exact ⟨a9, n9, c9, rfl, HR9⟩ | skip)
      case rest =>
      as_aux_lemma =>
      obtain ⟨a9, n9, c9, rfl, HR9⟩ := hcut
      obtain ⟨w9, hw9⟩ : ∃ wx, wx = wc := ⟨_, rfl⟩
      subst hw9
      clear HPre HR4
      have Hnt2 : Hid (∀ i, i < 2048 → decR (loL k') (hiL k' n' + 1) f i = nT (L.take j ++ L.drop (j + 1)) i) := hid (fun i hi => by
        rw [nT_del Hx.out]
        unfold decR
        rw [Hnt.out i hi])
      have Hpos : Hid (∀ i, loL k' ≤ i → i < hiL k' n' + 1 → f i ≠ 0) := hid (fun i h1 h2 => by
        have := HEk'.out.lo
        rw [Hnt.out i (by omega)]
        exact nT_pos Hx.out h1 h2)
      have HLn2 : Hid ((L.take j ++ L.drop (j + 1)).length ≤ i + 1) := hid (by
        rw [List.length_append, List.length_take, List.length_drop]
        have := HLn0.out
        omega)
      generalize L.take j ++ L.drop (j + 1) = L2 at HR9 Hnt2 HLn2
      clear Hx HLen
      have HVa := hid (fun (wz : World) (hz : AT A t b f wz) => vacate_walk hz HEk'.out)
      have HAd : Hid (∀ wz, Calls Try.prog 41 #[.agg #[.int .i64 (k' : Int), .int .i64 (n' : Int)]] wz fun e w' => e = .returned (.int .u64 (65536 + (k' : Int))) ∧ Below wz.heap.size wz w') := hid (fun wz => extAddr_walk (k' : Int) (n' : Int) HEk'.out.ext wz)
      have HFl := hid (fun wz => extFirst_nat HEk'.out wz)
      have HLl := hid (fun wz => extLast_nat HEk'.out wz)
      obtain ⟨hlo1, hla1⟩ := HEk'.out.lo
      have hkb := HEk'.out.kn
      obtain ⟨lo, hlo⟩ : ∃ x, loL k' = x := ⟨_, rfl⟩
      obtain ⟨la, hla⟩ : ∃ x, hiL k' n' = x := ⟨_, rfl⟩
      rw [hlo] at HFl HVa hlo1 Hnt2 Hpos
      rw [hla] at HLl HVa hlo1 hla1 Hnt2 Hpos
      clear hlo hla
      have Hf16 : Hid (∀ q, q < 2048 → f q < 16) := hid (fun q hq => f_le HR9.out.lm hq)
      go_upto_region 30 with fail
      refine wp_region_heavy (fun wz => Blk wz qe 64 [.int .i64 (k' : Int), .int .i64 (n' : Int)]) 7 [0, 1, 3, 4] [2, 5, 6] rfl (by kernel_rfl) (by kernel_rfl) (fun d _ _ _ _ h => by cases d <;> exact h) (HR9.out.qb.below (Drew.below ⟨1, rfl⟩ _)) ?_
      apply Exists.intro
      refine ⟨?_, ?_⟩
      · intro W hW
        have p0 : ∀ u, (W u).cell? ⟨qe, 0, none⟩ = some (.int .i64 (k' : Int)) := fun u => (hW u).cell 0
        have p1 : ∀ u, (W u).cell? ⟨qe, 1, none⟩ = some (.int .i64 (n' : Int)) := fun u => (hW u).cell 1
        clear hW
        simp only [List.take, opsAt, List.drop, List.cons_append, List.nil_append]
        repeat (go_big_quiet_step (fail))
        exact rfl
      simp only [List.take, List.drop, opsAt, List.cons_append, List.nil_append, wpHv]
      have HRd : Hid (LR w' A t b pw pO qe [.int .u8 kind, .int .u64 (65536 + (k : Int)), .int .u64 ob, .int .u64 (m : Int)] k' n' f f (.slice a9 n9 c9) L2 w9.drew) := hid (HR9.out.below (Drew.below ⟨1, rfl⟩ _))
      generalize w9.drew = wd at HRd ⊢
      clear HR9
      go_wp2_with fail
      refine (HAd.out wd).mono ?_
      rintro e w10 ⟨rfl, hb10⟩
      have HR10 := hid (HRd.out.below hb10)
      clear hb10 HRd HAd
      go_wp2_with fail
      refine ⟨HR10.out.qb, ?_⟩
      go_wp2_with fail
      refine (HVa.out w10 HR10.out.lm.ar).mono ?_
      rintro e w11 ⟨cV, rfl, HX⟩
      have HF : Hid (cV = 0 ∧ LR w' A t b pw pO qe [.int .u8 kind, .int .u64 (65536 + (k : Int)), .int .u64 ob, .int .u64 (m : Int)] k' n' (decR lo (la + 1) f) f (.slice a9 n9 c9) L2 w11) := hid (by
        rcases HX.out with ⟨x1, x2, x3, x4⟩ | ⟨x1, x2, x3, x4⟩
        · obtain ⟨i, h1, h2, h3⟩ := x2
          exact absurd h3 (Hpos.out i h1 h2)
        · exact ⟨x1, HR10.out.ua x3 x4⟩)
      have hcV := HF.out.1
      subst hcV
      have HR11 := hid HF.out.2
      have HQ := hid HR11.out.qb
      clear HX HF HR10 HVa
      go_wp2_with fail
      refine ⟨HQ.out, ?_⟩
      go_wp2_with fail
      refine ⟨HQ.out, ?_⟩
      simp only [QN]
      clear HQ
      have e0 : w11.cell? ⟨qe, 0, none⟩ = some (.int .i64 (k' : Int)) := HR11.out.qb.cell 0
      have e1 : w11.cell? ⟨qe, 1, none⟩ = some (.int .i64 (n' : Int)) := HR11.out.qb.cell 1
      go_upto_region 32 with fail
      go_wp2_with fail
      refine (HFl.out _).mono ?_
      rintro e w12 ⟨rfl, hb12⟩
      have HR12 := hid (HR11.out.below hb12)
      clear hb12 HR11 e0 e1 HFl
      have HSt : Hid (∀ j, j < 2048 → f j = prw f (decR lo (la + 1) f) lo j) := hid (fun j _ => by
        unfold prw
        split
        · have : inR lo (la + 1) j = false := by
            cases hr : inR lo (la + 1) j
            · rfl
            · have := inR_iff.1 hr
              omega
          unfold decR
          rw [this]
          rfl
        · rfl)
      have HEn : Hid (∀ j, j < 2048 → prw f (decR lo (la + 1) f) (la + 1) j = decR lo (la + 1) f j) := hid (fun j _ => by
        unfold prw
        split
        · rfl
        · have : inR lo (la + 1) j = false := by
            cases hr : inR lo (la + 1) j
            · rfl
            · have := inR_iff.1 hr
              omega
          unfold decR
          rw [this]
          rfl)
      have HFq : Hid (∀ q, lo ≤ q → q < la + 1 → ((decR lo (la + 1) f q : Nat) : Int) = (f q : Int) - 1) := hid (fun q h1 h2 => by
        have h3 := Hpos.out q h1 h2
        have h4 : (inR lo (la + 1) q).toNat = 1 := by rw [inR_iff.2 ⟨h1, h2⟩]; rfl
        unfold decR
        omega)
      go_upto_region 33 with fail
      go_loopw [15] (fun u wr => ∃ q : Nat, u = .int .i64 (q : Int) ∧ lo ≤ q ∧ q ≤ la + 1 ∧ Hid (LR w' A t b pw pO qe [.int .u8 kind, .int .u64 (65536 + (k : Int)), .int .u64 ob, .int .u64 (m : Int)] k' n' (decR lo (la + 1) f) (prw f (decR lo (la + 1) f) q) (.slice a9 n9 c9) (L2) wr)) (fun u _ => la + 2 - (intOf u).toNat)
      case atStart => exact ⟨lo, rfl, Nat.le_refl _, by omega, hid (HR12.out.congr (fun _ _ => rfl) HSt.out)⟩
      case round =>
      clear HR12 HSt
      obtain ⟨q, rfl, hq1, hq2, HK⟩ := hrel
      have e0 : wr.cell? ⟨qe, 0, none⟩ = some (.int .i64 (k' : Int)) := HK.out.qb.cell 0
      have e1 : wr.cell? ⟨qe, 1, none⟩ = some (.int .i64 (n' : Int)) := HK.out.qb.cell 1
      go_wp2_with fail
      refine (HLl.out _).mono ?_
      rintro e wl1 ⟨rfl, hbl1⟩
      have HK1 := hid (HK.out.below hbl1)
      clear hbl1 HK e0 e1
      by_cases hql : q ≤ la
      · as_aux_lemma =>
        have dq : decide ((q : Int) ≤ (la : Int)) = true := decide_eq_true (by omega)
        have hq2048 : (q : Int) < 2048 := by omega
        obtain ⟨fq, hfq⟩ : ∃ x, f q = x := ⟨_, rfl⟩
        have hf16 : fq < 16 := by rw [← hfq]; exact Hf16.out q (by omega)
        have hFq : ((decR lo (la + 1) f) q : Int) = (fq : Int) - 1 := by rw [← hfq]; exact HFq.out q hq1 (by omega)
        have hpq : prw f (decR lo (la + 1) f) q q = fq := by unfold prw; rw [if_neg (by omega)]; exact hfq
        have hpq2 : ((prw f (decR lo (la + 1) f) (q + 1) q : Nat) : Int) = (fq : Int) - 1 := by
          rw [← hFq]
          unfold prw
          rw [if_pos (by omega)]
        have c0 : wl1.cell? ⟨pw, q, none⟩ = some (.int .i64 (fq : Int)) := by rw [← hpq]; exact (HK1.out.lm.cell (by omega)).1
        have f0 : wl1.frozen? ⟨pw, q, none⟩ = false := (HK1.out.lm.cell (by omega)).2
        have HP := hid (HK1.out.put (g' := prw f (decR lo (la + 1) f) (q + 1)) (i := q) (by omega) (fun j _ => by
          by_cases e : j = q
          · rw [if_pos e, e]
          · rw [if_neg e]
            unfold prw
            by_cases h : j < q
            · rw [if_pos h, if_pos (by omega)]
            · rw [if_neg h, if_neg (by omega)]))
        rw [hpq2] at HP
        clear hpq hpq2 hFq hfq HK1
        go_wp2
        exact ⟨⟨q + 1, by go_num, by omega, by omega, HP⟩, by simp [intOf]; omega⟩
      as_aux_lemma =>
      have dq : decide ((q : Int) ≤ (la : Int)) = false := decide_eq_false (by omega)
      have hqe : q = la + 1 := by omega
      have HLR : Hid (LR w' A t b pw pO qe [.int .u8 kind, .int .u64 (65536 + (k : Int)), .int .u64 ob, .int .u64 (m : Int)] k' n' (decR lo (la + 1) f) (decR lo (la + 1) f) (.slice a9 n9 c9) (L2) wl1) := hid (HK1.out.congr (fun _ _ => rfl) (by rw [hqe]; exact HEn.out))
      clear HK1 HEn HFq Hf16
      have Hnt := Hnt2
      have HLn := HLn2
      have HEk := HEk'
      have HFl := hid (fun wz => extFirst_nat HEk.out wz)
      have HLl := hid (fun wz => extLast_nat HEk.out wz)
      obtain ⟨hlo9, hla9⟩ := HEk.out.lo
      generalize loL k' = lo2 at HFl hlo9
      generalize hiL k' n' = la2 at HLl hlo9 hla9
      have e0 : wl1.cell? ⟨qe, 0, none⟩ = some (.int .i64 (k' : Int)) := HLR.out.qb.cell 0
      have e1 : wl1.cell? ⟨qe, 1, none⟩ = some (.int .i64 (n' : Int)) := HLR.out.qb.cell 1
      go_upto_region 36 with fail
      go_wp2_with fail
      refine (HFl.out _).mono ?_
      rintro e wt0 ⟨rfl, hbt⟩
      have HLt := hid (HLR.out.below hbt)
      clear e0 e1 hbt HLR HFl
      go_upto_region 37 with fail
      go_loopw [16] (fun v wr => ∃ z : Int, v = .int .i64 z ∧ (lo2 : Int) - 1 ≤ z ∧ z ≤ (la2 : Int) + 2 ∧ Hid (LR w' A t b pw pO qe [.int .u8 kind, .int .u64 (65536 + (k : Int)), .int .u64 ob, .int .u64 (m : Int)] k' n' (decR lo (la + 1) f) (decR lo (la + 1) f) (.slice a9 n9 c9) L2 wr)) (fun v _ => ((la2 : Int) + 3 - intOf v).toNat)
      case atStart => exact ⟨(lo2 : Int) - 1, by go_num, by omega, by omega, HLt⟩
      case round =>
      clear HLt
      obtain ⟨z, rfl, hz1, hz2, HK⟩ := hrel
      have e0 : wr.cell? ⟨qe, 0, none⟩ = some (.int .i64 (k' : Int)) := HK.out.qb.cell 0
      have e1 : wr.cell? ⟨qe, 1, none⟩ = some (.int .i64 (n' : Int)) := HK.out.qb.cell 1
      go_wp2_with fail
      refine (HLl.out _).mono ?_
      rintro e wt1 ⟨rfl, hbt⟩
      have HK1 := hid (HK.out.below hbt)
      clear e0 e1 hbt HK
      by_cases hzl : z ≤ (la2 : Int) + 1
      rotate_left
      · as_aux_lemma =>
        have dz : decide (z ≤ (la2 : Int) + 1) = false := decide_eq_false hzl
        have HFin : Hid (LI w' A t b pw (i + 1) (.slice a9 n9 c9) wt1) := hid ⟨L2, (decR lo (la + 1) f), HK1.out.lm, Hnt.out, HLn.out⟩
        clear HK1
        go_wp2
        exact ⟨⟨i + 1, by omega, by go_num, a9, n9, c9, rfl, HFin⟩, by simp [intOf]; omega⟩
      as_aux_lemma =>
      have dz : decide (z ≤ (la2 : Int) + 1) = true := decide_eq_true hzl
      by_cases hzi : 0 ≤ z ∧ z < 2048
      · as_aux_lemma =>
        obtain ⟨j, rfl⟩ : ∃ j : Nat, z = (j : Int) := ⟨z.toNat, by omega⟩
        have hj : j < 2048 := by omega
        have HTa := hid (tally_in HK1.out.lm.ar j hj)
        have hj2 : (j : Int) < 2048 := by omega
        clear hzi
        generalize hfj : (decR lo (la + 1) f) j = fj at HTa
        have Hfj := hid hfj
        clear hfj
        go_wp2_with fail
        refine HTa.out.mono ?_
        rintro e wt2 ⟨rfl, hbt⟩
        have HK2 := hid (HK1.out.below hbt)
        clear hbt HK1 HTa
        have c0 : wt2.cell? ⟨pw, j, none⟩ = some (.int .i64 (fj : Int)) := by rw [← Hfj.out]; exact (HK2.out.lm.cell hj).1
        have dne : ((fj : Int) != (fj : Int)) = false := by simp
        go_wp2
        exact ⟨⟨(j : Int) + 1, by go_num, by omega, by omega, HK2⟩, by simp [intOf]; omega⟩
      · as_aux_lemma =>
        have HTa := hid (tally_out A z hzi wt1)
        go_wp2_with fail
        refine HTa.out.mono ?_
        rintro e wt2 ⟨rfl, hw2⟩
        have hw2' := hw2.symm
        clear hw2
        subst hw2'
        clear HTa
        go_wp2
        exact ⟨⟨z + 1, by go_num, by omega, by omega, HK1⟩, by simp [intOf]; omega⟩
end Go.Proofs.Qxb6500887a
