/- The bounded buffer: extend. -/
import Derived.Test.Qxb6500890aDoorTxB2
namespace Go.Proofs.Qxb6500890aDoor
open Go.RowKit
set_option linter.unusedSimpArgs false
set_option linter.unusedVariables false

theorem made_u8 (n : Nat) : madeCells #[.int .u8 0] n = (List.replicate n (.int .u8 0 : Value)).toArray := by
  apply Array.ext'
  apply List.ext_getElem
  · have := size_madeCells #[.int .u8 0] n
    simp
    simpa using this
  · intro i h1 h2
    simp [madeCells, Nat.mod_one]
theorem make_u8 (n c : Nat) (hn : n ≤ c) (hc : c ≤ 200000000000) (w : World) : (Instr.makeSlice 82 (.int .i64 (n : Int)) (.int .i64 (c : Int))).run Tryd.prog w = .ok (.slice (some ⟨w.heap.size, 0, none⟩) n c) (w.alloc (.cells (madeCells #[.int .u8 0] c) 5)) := by
  obtain ⟨i0, hi, hz0, hz1, hz2⟩ := info_parts info_u8
  have := run_make (P := Tryd.prog) w 82 5 i0 _ Tryd.underlying82 hi hz0 .i64 .i64 n c (by omega) (by omega) (by rw [hz2]; omega) (by omega)
  rw [hz1, Int.toNat_natCast, Int.toNat_natCast, Nat.mul_one] at this
  exact this
def tlA (a : Option Addr) (n q : Nat) : Option Addr := if q = n then a else a.map (·.add (n * 1))
theorem tail_run {a : Option Addr} {n k m q : Nat} (hm : n + k = m) : ∀ wx : World, (Instr.slice 82 (.slice a m q) (some (.int .i64 (n : Int))) none none).run Tryd.prog wx = .ok (.slice (tlA a n q) k (q - n)) wx := fun wx => by
  have ht : Tryd.prog.underlying 82 = some (.slice (Tryd.prog.elem 82)) := by kernel_rfl
  have e2 : Tryd.prog.elem 82 = 5 := by kernel_rfl
  have e3 : (sizeOf 5).run Tryd.prog wx = .ok 1 wx := by
    obtain ⟨i0, hi0, _, hz1, _⟩ := info_parts info_u8
    simp [sizeOf, typeInfo, hi0, hz1]
  rw [run_slice_l wx 82 a m q ht .i64 (n : Int) (by omega) (by omega), e2, e3]
  simp only [Result.andThen_ok, sliced, Int.toNat_natCast, tlA]
  rw [show m - n = k by omega]
theorem cut_run {a : Option Addr} {n m q : Nat} (ha : (a = none ∧ q = 0) ∨ ∃ g, a = some ⟨g, 0, none⟩) (hm : m ≤ q) : ∀ wx : World, (Instr.slice 82 (.slice a n q) none (some (.int .i64 (m : Int))) none).run Tryd.prog wx = .ok (.slice a m q) wx := fun wx => by
  have ht : Tryd.prog.underlying 82 = some (.slice (Tryd.prog.elem 82)) := by kernel_rfl
  have e2 : Tryd.prog.elem 82 = 5 := by kernel_rfl
  have e3 : (sizeOf 5).run Tryd.prog wx = .ok 1 wx := by
    obtain ⟨i0, hi0, _, hz1, _⟩ := info_parts info_u8
    simp [sizeOf, typeInfo, hi0, hz1]
  rw [run_slice_h wx 82 a n q ht .i64 (m : Int) (by omega) (by omega), e2, e3]
  simp only [Result.andThen_ok, sliced, Int.toNat_natCast, Nat.sub_zero, Nat.zero_mul]
  rcases ha with ⟨rfl, rfl⟩ | ⟨g, rfl⟩
  · simp
  · have ea : (⟨g, 0, none⟩ : Addr).add 0 = ⟨g, 0, none⟩ := rfl
    simp [ea]
/-- Made longer by k bytes that are still to be filled. -/
structure Gr (w : World) (ρ : Rl) (bB lim : Nat) (bs : List UInt8) (k : Nat) (ta a : Option Addr) (q : Nat) : Prop where
  bb : Blk w bB 93 [.slice a (bs.length + k) q, .int .i64 (lim : Int)]
  rb : ρ bB = 2
  dt : (k = 0 ∧ Dt w ρ a q bs) ∨ (0 < k ∧ ∃ g rest, a = some ⟨g, 0, none⟩ ∧ ta = some ⟨g, bs.length, none⟩ ∧ Blk w g 5 (byteVals bs ++ rest) ∧ bs.length + rest.length = q ∧ k ≤ rest.length ∧ ρ g = 3)
  lq : q ≤ 200000000000
  ll : lim ≤ 9223372036854775807
def ExP (w : World) (ρ : Rl) (bB lim : Nat) (bs : List UInt8) (k : Nat) (r : Bool) (e : Ending) (w' : World) : Prop :=
  if r then ∃ ta tc a' q' ρ', e = .returned (.tuple #[.slice ta k tc, .bool true]) ∧ Gr w' ρ' bB lim bs k ta a' q' ∧ Fr buX ρ w ρ' w'
  else e = .returned (.tuple #[.slice none 0 0, .bool false]) ∧ Below w.heap.size w w'
section
variable {w w' : World} {ρ ρ' : Rl} {a : Option Addr} {q bB lim : Nat} {bs : List UInt8} {X : Nat → Bool}
theorem Dt.shape (h : Dt w ρ a q bs) : (a = none ∧ q = 0) ∨ ∃ g, a = some ⟨g, 0, none⟩ := by
  rcases h with ⟨h1, _, h2⟩ | ⟨g, rest, h1, _⟩
  · exact .inl ⟨h1, h2⟩
  · exact .inr ⟨g, h1⟩
theorem Bu.grown (h : Bu w ρ bB lim bs a q) {k m : Nat} (hm : bs.length + k = m) (hq : m ≤ q) : Gr (w.setCell ⟨bB, 0, none⟩ (.slice a m q)) ρ bB lim bs k (tlA a bs.length q) a q ∧ Fr buX ρ w ρ (w.setCell ⟨bB, 0, none⟩ (.slice a m q)) := by
  have hf : Fr (fun c => c == 2) ρ w ρ (w.setCell ⟨bB, 0, none⟩ (.slice a m q)) := Fr.set _ (by show (ρ bB == 2) = true; rw [h.rb]; rfl)
  have hf2 : Fr buX ρ w ρ (w.setCell ⟨bB, 0, none⟩ (.slice a m q)) := hf.mono fun c hc => by simp at hc; simp [buX, hc]
  refine ⟨⟨by rw [hm]; exact h.bb.set 0 _, h.rb, ?_, h.lq, h.ll⟩, hf2⟩
  have hd := h.dt.fr hf rfl
  by_cases hk : k = 0
  · exact .inl ⟨hk, hd⟩
  · refine .inr ⟨by omega, ?_⟩
    rcases hd with ⟨_, h1, h2⟩ | ⟨g, rest, h1, h2, h3, h4⟩
    · omega
    · refine ⟨g, rest, h1, ?_, h2, h3, by omega, h4⟩
      unfold tlA
      rw [if_neg (by omega), h1, Nat.mul_one]
      have ea : (⟨g, 0, none⟩ : Addr).add bs.length = ⟨g, 0 + bs.length, none⟩ := by unfold Addr.add; split <;> simp_all
      simp [ea]
theorem Bu.setD {v0 : Value} (hb : Blk w bB 93 [v0, .int .i64 (lim : Int)]) (hr : ρ bB = 2) (hl : lim ≤ 9223372036854775807) {a' : Option Addr} {q' : Nat} {cs : List UInt8} (hd : Dt w ρ a' q' cs) (hq : q' ≤ 200000000000) : Bu (w.setCell ⟨bB, 0, none⟩ (.slice a' cs.length q')) ρ bB lim cs a' q' ∧ Fr buX ρ w ρ (w.setCell ⟨bB, 0, none⟩ (.slice a' cs.length q')) := by
  have hf : Fr (fun c => c == 2) ρ w ρ (w.setCell ⟨bB, 0, none⟩ (.slice a' cs.length q')) := Fr.set _ (by show (ρ bB == 2) = true; rw [hr]; rfl)
  have hf2 : Fr buX ρ w ρ (w.setCell ⟨bB, 0, none⟩ (.slice a' cs.length q')) := hf.mono fun c hc => by simp at hc; simp [buX, hc]
  exact ⟨⟨hb.set 0 _, hr, hd.fr hf rfl, hq, hl⟩, hf2⟩
/-- Grown: the bytes moved to a new block, then the length set. -/
theorem Bu.regrow (h : Bu w ρ bB lim bs a q) {wx w6 : World} {gN n c k m : Nat} {o : Obj} (hn : bs.length = n) (hg : w.heap.size = gN) (hx : w.alloc o = wx) (h6 : Blk w6 gN 5 (splice (List.replicate c (.int .u8 0)) 0 (byteVals bs))) (hu : Upd gN wx w6) (hm : n + k = m) (hmc : m ≤ c) (hc : c ≤ 200000000000) :
    ∃ ρ', Gr ((w6.setCell ⟨bB, 0, none⟩ (.slice (some ⟨gN, 0, none⟩) n c)).setCell ⟨bB, 0, none⟩ (.slice (some ⟨gN, 0, none⟩) m c)) ρ' bB lim bs k (tlA (some ⟨gN, 0, none⟩) n c) (some ⟨gN, 0, none⟩) c ∧ Fr buX ρ w ρ' ((w6.setCell ⟨bB, 0, none⟩ (.slice (some ⟨gN, 0, none⟩) n c)).setCell ⟨bB, 0, none⟩ (.slice (some ⟨gN, 0, none⟩) m c)) := by
  have hlt := h.bb.lt
  have hne : bB ≠ gN := by omega
  have f1 : Fr buX ρ w (fup ρ gN 3) wx := by
    rw [← hx, ← hg]
    exact Fr.alloc _ _ _ _ _
  have f2 : Fr buX (fup ρ gN 3) wx (fup ρ gN 3) w6 := Fr.upd hu (by rw [fup_self]; rfl)
  have hbx : Blk wx bB 93 [.slice a bs.length q, .int .i64 (lim : Int)] := by
    rw [← hx]
    exact h.bb.of (Below.heap_alloc _ _ _ hlt)
  have hb6 : Blk w6 bB 93 [.slice a bs.length q, .int .i64 (lim : Int)] := hbx.of (hu.block _ hbx.lt hne)
  have hr6 : fup ρ gN 3 bB = 2 := by rw [fup_ne _ _ hne]; exact h.rb
  have e6 : splice (List.replicate c (.int .u8 0)) 0 (byteVals bs) = byteVals bs ++ List.replicate (c - n) (.int .u8 0) := by
    unfold splice
    rw [List.take_zero, List.nil_append, Nat.zero_add, byteVals_len, hn, List.drop_replicate]
  rw [e6] at h6
  have hd : Dt w6 (fup ρ gN 3) (some ⟨gN, 0, none⟩) c bs := .inr ⟨gN, _, rfl, h6, by rw [List.length_replicate, hn]; omega, fup_self _ _ _⟩
  obtain ⟨k1, k2⟩ := Bu.setD hb6 hr6 h.ll hd hc
  rw [hn] at k1 k2
  obtain ⟨k3, k4⟩ := k1.grown (k := k) (m := m) (by rw [hn]; exact hm) hmc
  rw [hn] at k3
  exact ⟨_, k3, ((f1.trans f2).trans k2).trans k4⟩
def growC (lim q m : Nat) : Nat :=
  let c := if 2 * q < 32 then 32 else 2 * q
  let c := if c < m then m else c
  if lim ≠ 0 ∧ lim < c then lim else c
theorem growC_ok {lim q n k m : Nat} (hr : roomP lim n k = true) (hm : n + k = m) (hq : q < m) (hb : m ≤ 68719476736) : m ≤ growC lim q m ∧ growC lim q m ≤ 200000000000 := by
  unfold roomP at hr
  simp only [Bool.or_eq_true, beq_iff_eq, decide_eq_true_eq] at hr
  unfold growC
  dsimp only
  split
  · split <;> split <;> omega
  · split <;> split <;> omega
set_option maxRecDepth 100000
set_option maxHeartbeats 1000000 in
theorem extend_walk (h : Bu w ρ bB lim bs a q) (k : Nat) (hk : k ≤ 1000000000) (hb : bs.length + k ≤ 68719476736) : Calls Tryd.prog 64 #[.pointer (some ⟨bB, 0, none⟩), .int .i64 (k : Int)] w fun e w' => ExP w ρ bB lim bs k (roomP lim bs.length k) e w' := by
  have HH := hid h
  have HRm := hid (room_walk h k hk)
  obtain ⟨n, hn⟩ : ∃ n, bs.length = n := ⟨_, rfl⟩
  have Hn := hid hn
  rw [hn] at HRm hb
  rw [hn]
  obtain ⟨r, hr⟩ : ∃ r, roomP lim n k = r := ⟨_, rfl⟩
  rw [hr] at HRm
  rw [hr]
  have Hr := hid hr
  obtain ⟨m, hm⟩ : ∃ m, n + k = m := ⟨_, rfl⟩
  have hmi : (n : Int) + (k : Int) = (m : Int) := by omega
  rw [hm] at hb
  have Hm := hid hm
  have hq := h.lq
  have hll := h.ll
  clear h hn hr hm
  go_enter Tryd.func64, Tryd.ntmps64
  go_wp2_with fail
  refine HRm.out.mono ?_
  rintro e1 w1 ⟨rfl, hb1⟩
  have HB1 := hid hb1
  have HH1 := hid (HH.out.below hb1)
  clear hb1 HRm
  cases r with
  | false =>
    clear HH HH1
    go_wp2
    exact bodyPost_ret (v := .tuple #[.slice none 0 0, .bool false]) (by simp [results, Tryd.results64, go_sem]) rfl ⟨rfl, HB1.out⟩
  | true =>
    have c1 := HH1.out.cells.1
    rw [Hn.out] at c1
    have c2 := HH1.out.cells.2
    have f1 : w1.frozen? ⟨bB, 0, none⟩ = false := HH1.out.bb.frozen _
    by_cases hg : m ≤ q
    · have d1 : decide ((m : Int) > (q : Int)) = false := decide_eq_false (by omega)
      have d2 : decide ((q : Int) < (m : Int)) = false := decide_eq_false (by omega)
      have hgi : (m : Int) ≤ (q : Int) := by omega
      have r1 := cut_run (n := n) HH1.out.dt.shape hg
      have r2 := tail_run (a := a) (q := q) Hm.out
      have HR := hid (HH1.out.grown (k := k) (m := m) (by rw [Hn.out]; exact Hm.out) hg)
      rw [Hn.out] at HR
      have HR2 : Hid (ExP w ρ bB lim bs k true (.returned (.tuple #[.slice (tlA a n q) k (q - n), .bool true])) (w1.setCell ⟨bB, 0, none⟩ (.slice a m q))) := hid ⟨_, _, _, _, ρ, rfl, HR.out.1, (Fr.below HB1.out).trans HR.out.2⟩
      clear HR HH HH1
      go_wp2
      exact bodyPost_ret (v := .tuple #[.slice (tlA a n q) k (q - n), .bool true]) (by simp [results, Tryd.results64, go_sem]) rfl HR2.out
    · have d1 : decide ((m : Int) > (q : Int)) = true := decide_eq_true (by omega)
      have d2 : decide ((q : Int) < (m : Int)) = true := decide_eq_true (by omega)
      obtain ⟨c, hc⟩ : ∃ c, growC lim q m = c := ⟨_, rfl⟩
      have hck := growC_ok (q := q) Hr.out Hm.out (by omega) hb
      rw [hc] at hck
      have Hc := hid hc
      have HCk := hid hck
      obtain ⟨q2, hq2⟩ : ∃ q2, 2 * q = q2 := ⟨_, rfl⟩
      have hq2i : (2 : Int) * (q : Int) = (q2 : Int) := by omega
      have hq2b : (q2 : Int) ≤ 400000000000 := by omega
      have Hq2 := hid hq2
      clear hc hck hq2
      obtain ⟨x1, hx1⟩ : ∃ x1, (if 2 * q < 32 then 32 else 2 * q) = x1 := ⟨_, rfl⟩
      obtain ⟨x2, hx2⟩ : ∃ x2, (if x1 < m then m else x1) = x2 := ⟨_, rfl⟩
      have hx3 : (if lim ≠ 0 ∧ lim < x2 then lim else x2) = c := by
        rw [← Hc.out, ← hx2, ← hx1]
        rfl
      rw [Hq2.out] at hx1
      have Hx1 := hid hx1
      have Hx2 := hid hx2
      have Hx3 := hid hx3
      clear hx1 hx2 hx3
      obtain ⟨b1, hb1⟩ : ∃ b, decide ((q2 : Int) < 32) = b := ⟨_, rfl⟩
      have Hb1 := hid hb1
      go_upto_if 36 with fail
      clear hb1
      go_cut [8] from 36 to 36 (fun v wc => v = .int .i64 (x1 : Int) ∧ wc = w1)
      case first =>
        cases b1 with
        | true =>
          have HE : Hid ((32 : Int) = (x1 : Int)) := hid (by
            have h1 := of_decide_eq_true Hb1.out
            rw [← Hx1.out, if_pos (by omega)]; rfl)
          go_wp2
          go_meet
          exact ⟨by rw [HE.out], rfl⟩
        | false =>
          have HE : Hid ((q2 : Int) = (x1 : Int)) := hid (by
            have h1 := of_decide_eq_false Hb1.out
            rw [← Hx1.out, if_neg (by omega)])
          go_wp2
          go_meet
          exact ⟨by rw [HE.out], rfl⟩
      case rest =>
        obtain ⟨rfl, rfl⟩ := hcut
        have hx1b : (x1 : Int) ≤ 400000000000 := by
          have h1 := Hx1.out
          split at h1 <;> omega
        obtain ⟨b2, hb2⟩ : ∃ b, decide (x1 < m) = b := ⟨_, rfl⟩
        have Hb2 := hid hb2
        go_upto_if 39 with fail
        clear hb2
        go_cut [8] from 39 to 40 (fun v wc' => v = .int .i64 (x2 : Int) ∧ wc' = wc)
        case first =>
          cases b2 with
          | true =>
            have HE : Hid ((m : Int) = (x2 : Int)) := hid (by
              have h1 := of_decide_eq_true Hb2.out
              rw [← Hx2.out, if_pos (by omega)])
            go_wp2
            go_meet
            exact ⟨by rw [HE.out], rfl⟩
          | false =>
            have HE : Hid ((x1 : Int) = (x2 : Int)) := hid (by
              have h1 := of_decide_eq_false Hb2.out
              rw [← Hx2.out, if_neg (by omega)])
            go_wp2
            go_meet
            exact ⟨by rw [HE.out], rfl⟩
        case rest =>
          obtain ⟨rfl, rfl⟩ := hcut
          have hx2b : (x2 : Int) ≤ 400000000000 := by
            have h1 := Hx2.out
            split at h1 <;> omega
          obtain ⟨b3, hb3⟩ : ∃ b, decide (lim ≠ 0 ∧ lim < x2) = b := ⟨_, rfl⟩
          have Hb3 := hid hb3
          clear hb3
          go_upto_region 11 with fail
          go_cut [53] from 41 to 53 (fun v wc' => v = .bool b3 ∧ wc' = wc)
          case first =>
            by_cases h0 : lim = 0
            · have t0 : ((lim : Int) != 0) = false := by rw [h0]; rfl
              have t1 : ((lim : Int) == 0) = true := by rw [h0]; rfl
              have HE : Hid (false = b3) := hid (by rw [← Hb3.out]; exact (decide_eq_false (fun h => h.1 h0)).symm)
              clear h0
              go_wp2
              go_meet
              exact ⟨by rw [HE.out], rfl⟩
            · have t0 : ((lim : Int) != 0) = true := by simp; omega
              have t1 : ((lim : Int) == 0) = false := by rw [beq_eq_false_iff_ne]; omega
              obtain ⟨b4, hb4⟩ : ∃ b, decide (lim < x2) = b := ⟨_, rfl⟩
              have HE : Hid (b4 = b3) := hid (by rw [← Hb3.out, ← hb4]; exact decide_eq_decide.2 ⟨fun h => ⟨h0, h⟩, fun h => h.2⟩)
              clear h0
              go_wp2
              go_meet
              exact ⟨by rw [HE.out], rfl⟩
          case rest =>
            obtain ⟨rfl, rfl⟩ := hcut
            go_upto_if 53 with fail
            go_cut [8] from 53 to 57 (fun v wc' => v = .int .i64 (c : Int) ∧ wc' = wc)
            case first =>
              cases b3 with
              | true =>
                have HE : Hid ((lim : Int) = (c : Int)) := hid (by rw [← Hx3.out, if_pos (of_decide_eq_true Hb3.out)])
                go_wp2
                go_meet
                exact ⟨by rw [HE.out], rfl⟩
              | false =>
                have HE : Hid ((x2 : Int) = (c : Int)) := hid (by rw [← Hx3.out, if_neg (of_decide_eq_false Hb3.out)])
                go_wp2
                go_meet
                exact ⟨by rw [HE.out], rfl⟩
            case rest =>
              obtain ⟨rfl, rfl⟩ := hcut
              have hcb : c ≤ 200000000000 := HCk.out.2
              have hmc : m ≤ c := HCk.out.1
              have hmk := make_u8 n c (by have := Hm.out; omega) hcb
              obtain ⟨i0, hi, hz0, hz1, hz2⟩ := info_parts info_u8
              obtain ⟨gN, hgN⟩ : ∃ g, wc.heap.size = g := ⟨_, rfl⟩
              obtain ⟨wx, hwx⟩ : ∃ wx, (wc.alloc (Obj.cells (madeCells #[.int .u8 0] c) 5)) = wx := ⟨_, rfl⟩
              have hBx : Blk wx gN 5 (List.replicate c (.int .u8 0)) := by
                have e := Blk.new wc (List.replicate c (.int .u8 0)) 5
                rw [← made_u8, hwx, hgN] at e
                exact e
              have hU : Below wc.heap.size wc wx := by subst hwx; exact Below.alloc (Below.refl _ _) (Nat.le_refl _) _
              have HH2 := HH1.out.below hU
              obtain ⟨w6, hrun, hb6, hu6⟩ := run_copy_blk (P := Tryd.prog) wx 82 82 3 5 i0 1 Tryd.underlying82 hi hz1 (some ⟨gN, 0, none⟩) a n c n q gN 0 5 _ (byteVals bs) hBx (by rw [byteVals_len, Hn.out]; simp) (fun h0 => by
                refine ⟨rfl, ?_⟩
                have h0' : 0 < n := by simpa using h0
                rcases HH2.dt with ⟨_, h1, _⟩ | ⟨g, rest, h1, h2, h3, h4⟩
                · have := Hn.out; rw [h1] at this; simp at this; omega
                · refine ⟨_, h1, fun j v hv => ?_⟩
                  have ea : (⟨g, 0, none⟩ : Addr).add j = ⟨g, 0 + j, none⟩ := by unfold Addr.add; split <;> simp_all
                  have hj := (List.getElem?_eq_some_iff.1 hv).1
                  rw [ea, h2.cell, Nat.zero_add, List.getElem?_append_left hj]
                  exact hv) (by rw [byteVals_len, Hn.out, List.length_replicate]; have := Hm.out; omega) (fun v hv => by
                obtain ⟨b, _, rfl⟩ := List.mem_map.1 hv
                rfl)
              have hbx : Blk wx bB 93 [.slice a bs.length q, .int .i64 (lim : Int)] := HH2.bb
              have cx : wx.cell? ⟨bB, 0, none⟩ = some (.slice a n q) := by rw [← Hn.out]; exact hbx.cell 0
              have hne : bB ≠ gN := by have := HH1.out.bb.lt; omega
              have hb6' : Blk w6 bB 93 [.slice a bs.length q, .int .i64 (lim : Int)] := hbx.of (hu6.block _ hbx.lt hne)
              have c6 : w6.cell? ⟨bB, 0, none⟩ = some (.slice a n q) := by rw [← Hn.out]; exact hb6'.cell 0
              have f6 : w6.frozen? ⟨bB, 0, none⟩ = false := hb6'.frozen _
              have HG : Hid (∃ ρ', Gr ((w6.setCell ⟨bB, 0, none⟩ (.slice (some ⟨gN, 0, none⟩) n c)).setCell ⟨bB, 0, none⟩ (.slice (some ⟨gN, 0, none⟩) m c)) ρ' bB lim bs k (tlA (some ⟨gN, 0, none⟩) n c) (some ⟨gN, 0, none⟩) c ∧ Fr buX ρ wc ρ' ((w6.setCell ⟨bB, 0, none⟩ (.slice (some ⟨gN, 0, none⟩) n c)).setCell ⟨bB, 0, none⟩ (.slice (some ⟨gN, 0, none⟩) m c))) := hid (HH1.out.regrow Hn.out hgN hwx hb6 hu6 Hm.out hmc hcb)
              have HR2 : Hid (ExP w ρ bB lim bs k true (.returned (.tuple #[.slice (tlA (some ⟨gN, 0, none⟩) n c) k (c - n), .bool true])) ((w6.setCell ⟨bB, 0, none⟩ (.slice (some ⟨gN, 0, none⟩) n c)).setCell ⟨bB, 0, none⟩ (.slice (some ⟨gN, 0, none⟩) m c))) := hid (by
                obtain ⟨ρ', g1, g2⟩ := HG.out
                exact ⟨_, _, _, _, ρ', rfl, g1, (Fr.below HB1.out).trans g2⟩)
              have r1 := cut_run (a := some ⟨gN, 0, none⟩) (n := n) (.inr ⟨gN, rfl⟩) hmc
              have r2 := tail_run (a := some ⟨gN, 0, none⟩) (q := c) Hm.out
              have hci : (c : Int) ≤ 200000000000 := by omega
              have hni : (n : Int) ≤ (c : Int) := by have := Hm.out; omega
              clear HG hb6' hne hbx hb6 hu6 hBx hU HH2 HH1 HH
              go_wp2
              exact bodyPost_ret (v := .tuple #[.slice (tlA (some ⟨gN, 0, none⟩) n c) k (c - n), .bool true]) (by simp [results, Tryd.results64, go_sem]) rfl HR2.out
end
end Go.Proofs.Qxb6500890aDoor
