/- What the laws read: Stats. -/
import Derived.Test.Qxb6500888aBaQ1
namespace Go.Proofs.Qxb6500888a
open Go.RowKit
set_option linter.unusedSimpArgs false
set_option linter.unusedVariables false

def sK (f : Nat → Nat) : Nat → Nat
  | 0 => 0
  | k + 1 => sK f k + f k
theorem sK_le {f : Nat → Nat} {N : Nat} (h : ∀ m, f m ≤ N) : ∀ k, sK f k ≤ k * N
  | 0 => Nat.zero_le _
  | k + 1 => by
    have h1 := sK_le h k
    have h2 := h k
    show sK f k + f k ≤ _
    rw [Nat.add_mul]
    omega
def stC (B : BS) (k1 k2 k3 : Nat) : List Value := [.int .u64 (B.ep : Int), .int .i64 (sK (fun m => (B.logs m).length) k1 : Int), .int .i64 (sK (fun m => (B.fresh m).length) k2 : Int), .int .i64 (sK (fun m => (B.roots m).length) k3 : Int), .int .i64 (B.last.length : Int), .int .i64 (B.made : Int)]
theorem info_st : (Try.prog.info? 90).map (·.size) = some 6 := by kernel_rfl
theorem aggSt : AggOf Try.prog 90 6 := AggOf.struct Try.underlying90 info_st
theorem stC_one (B : BS) (k1 k2 k3 : Nat) : ∀ u ∈ stC B k1 k2 k3, u.oneCell' = true := fun u hu => by
  simp only [stC, List.mem_cons, List.not_mem_nil, or_false] at hu
  rcases hu with rfl | rfl | rfl | rfl | rfl | rfl <;> rfl
section
variable {w w' : World} {ρ ρ' : Rl} {L : GL} {T : BL} {G : GS} {B : BS}
/-- The sums under way. -/
structure StI (w : World) (B : BS) (rB sB k1 k2 k3 : Nat) (wr : World) : Prop where
  st : Blk wr sB 90 (stC B k1 k2 k3)
  rs : ∃ cs, Blk wr rB 90 cs ∧ cs.length = 6
  bel : Below w.heap.size w wr
  lo : w.heap.size ≤ rB
  ne : rB < sB
theorem StI.below {rB sB k1 k2 k3 : Nat} {wr : World} (h : StI w B rB sB k1 k2 k3 wr) (hb : Below wr.heap.size wr w') : StI w B rB sB k1 k2 k3 w' := ⟨h.st.below hb, by obtain ⟨cs, h1, h2⟩ := h.rs; exact ⟨cs, h1.below hb, h2⟩, h.bel.trans (hb.mono h.bel.size), h.lo, h.ne⟩
theorem StI.set {rB sB k1 k2 k3 k1' k2' k3' : Nat} {wr : World} (h : StI w B rB sB k1 k2 k3 wr) (i : Nat) (v : Value) (he : (stC B k1 k2 k3).set i v = stC B k1' k2' k3') : StI w B rB sB k1' k2' k3' (wr.setCell ⟨sB, i, none⟩ v) := by
  have hu := upd1 sB i v wr
  have hlo := h.lo
  have hne := h.ne
  refine ⟨by rw [← he]; exact h.st.set i v, ?_, h.bel.trans (hu.below (by omega) h.bel.size), h.lo, h.ne⟩
  obtain ⟨cs, h1, h2⟩ := h.rs
  exact ⟨cs, h1.upd hu (by omega), h2⟩
set_option maxRecDepth 1000000 in
set_option maxHeartbeats 4000000 in
theorem stats_walk (h : BM w ρ L T G B) {N : Nat} (hb : BOk B N) (hN : N ≤ 1000000000) :
    Calls Try.prog 38 #[.pointer (some ⟨T.bB, 0, none⟩)] w fun e w' => e = .returned (.agg (stC B 4 4 4).toArray) ∧ Below w.heap.size w w' := by
  obtain ⟨rB, hrB⟩ : ∃ r, w.heap.size = r := ⟨_, rfl⟩
  obtain ⟨la, lq, hlv⟩ := h.lr.shape
  obtain ⟨bB, hbB⟩ : ∃ b, T.bB = b := ⟨_, rfl⟩
  have HC : Hid (∀ wx, Below w.heap.size w wx → (wx.cell? ⟨bB, 284, none⟩ = some (.int .u64 (B.ep : Int)) ∧ wx.cell? ⟨bB, 281, none⟩ = some (.slice la B.last.length lq) ∧ wx.cell? ⟨bB, 280, none⟩ = some (.int .i64 (B.made : Int)))) := hid (fun wx hx => by
    have h' := h.below hx
    rw [← hbB]
    exact ⟨h'.ecell (by decide) (by decide), by rw [h'.rcell.1, hlv], h'.pcell.2⟩)
  have HM : Hid (∀ m, m < 4 → ∃ fa fq, ∀ wx, Below w.heap.size w wx → (wx.cell? ⟨bB, 3 + m * 69 + 2, none⟩ = some (.int .i64 ((B.logs m).length : Int)) ∧ wx.cell? ⟨bB, 3 + m * 69 + 68, none⟩ = some (.slice fa (B.fresh m).length fq) ∧ wx.cell? ⟨bB, 3 + m * 69 + 3 + 64, none⟩ = some (.int .i64 ((B.roots m).length : Int)))) := hid (fun m hm => by
    obtain ⟨fa, fq, hfv⟩ := (h.fr m hm).shape
    refine ⟨fa, fq, fun wx hx => ?_⟩
    have h' := h.below hx
    rw [← hbB]
    exact ⟨(h'.lcells hm).2.2, by rw [h'.fcell hm, hfv], h'.depth hm⟩)
  have HBo := hid (And.intro hb hN)
  have I0 := hid info_st
  rw [hbB]
  clear h hb hN hlv hbB
  go_enter Try.func38, Try.ntmps38
  go_upto_region 1 with fail
  obtain ⟨wa, hwa⟩ : ∃ wa, w.alloc (.cells #[.int .u64 0, .int .i64 0, .int .i64 0, .int .i64 0, .int .i64 0, .int .i64 0] 90) = wa := ⟨_, rfl⟩
  have HRa : Hid (Blk wa rB 90 [.int .u64 0, .int .i64 0, .int .i64 0, .int .i64 0, .int .i64 0, .int .i64 0] ∧ Below w.heap.size w wa) := hid (by rw [← hwa, ← hrB]; exact ⟨Blk.new w [.int .u64 0, .int .i64 0, .int .i64 0, .int .i64 0, .int .i64 0, .int .i64 0] _, nbel w _⟩)
  simp only [hwa]
  obtain ⟨ll, hll⟩ : ∃ x, B.last.length = x := ⟨_, rfl⟩
  have Hll := hid hll
  rw [hll] at HC
  clear hwa hll
  refine wp_region_heavy (fun wx => wx.cell? ⟨bB, 284, none⟩ = some (.int .u64 (B.ep : Int)) ∧ wx.cell? ⟨bB, 281, none⟩ = some (.slice la ll lq) ∧ wx.cell? ⟨bB, 280, none⟩ = some (.int .i64 (B.made : Int))) 16 [0, 1, 2, 3, 4, 5, 6, 7, 8, 9, 10, 11, 12, 13, 14] [15] rfl (by kernel_rfl) (by kernel_rfl) (fun d _ _ _ _ h => by cases d <;> exact h) (HC.out _ (HRa.out.2.trans ((Drew.below ⟨1, rfl⟩ _ : Below wa.heap.size wa wa.drew).mono HRa.out.2.size))) ?_
  apply Exists.intro
  refine ⟨?_, ?_⟩
  · intro W hW
    have e1 := fun x => (hW x).1
    have e2 := fun x => (hW x).2.1
    have e3 := fun x => (hW x).2.2
    simp only [List.take, opsAt, List.drop, List.cons_append, List.nil_append]
    repeat (go_big_quiet_step (fail))
    exact rfl
  simp only [List.take, List.drop, opsAt, List.cons_append, List.nil_append, wpHv]
  have HBd : Hid (Below wa.heap.size wa wa.drew) := hid (Drew.below ⟨1, rfl⟩ _)
  have hsd : wa.drew.heap.size = wa.heap.size := rfl
  have Hsd := hid hsd
  clear hsd
  generalize wa.drew = wd at HBd Hsd ⊢
  go_wp2_with fail
  obtain ⟨wf, hwf⟩ : ∃ wf, wd.alloc (.cells #[.int .u64 0, .int .i64 0, .int .i64 0, .int .i64 0, .int .i64 0, .int .i64 0] 90) = wf := ⟨_, rfl⟩
  obtain ⟨sB, hsB⟩ : ∃ x, wd.heap.size = x := ⟨_, rfl⟩
  have HBf : Hid (Below w.heap.size w wf) := hid (by rw [← hwf]; have h1 := HRa.out.2.trans (HBd.out.mono HRa.out.2.size); exact h1.trans ((nbel wd _).mono h1.size))
  have HSf : Hid (Blk wf sB 90 [.int .u64 0, .int .i64 0, .int .i64 0, .int .i64 0, .int .i64 0, .int .i64 0] ∧ Blk wf rB 90 [.int .u64 0, .int .i64 0, .int .i64 0, .int .i64 0, .int .i64 0, .int .i64 0] ∧ rB < sB) := hid (by
    rw [← hwf]
    refine ⟨by rw [← hsB]; exact Blk.new wd [.int .u64 0, .int .i64 0, .int .i64 0, .int .i64 0, .int .i64 0, .int .i64 0] _, (HRa.out.1.below HBd.out).below (nbel wd _), ?_⟩
    have := HRa.out.1.lt
    have := Hsd.out
    omega)
  (try simp only [hwf, hsB])
  refine ⟨HC.out _ HBf.out, ?_⟩
  clear hwf hsB HBd Hsd HRa
  simp only [QN]
  have HrB := hid hrB
  clear hrB
  refine wpList_store_blk rfl 90 _ _ rfl sB (by simp [Act.eval, Act.put]; done) (stC B 0 0 0) (by simp [Act.eval, Act.put, stC, sK, Hll.out]; done) HSf.out.1 rfl I0.out (stC_one B 0 0 0) ?_
  intro w9 HB9 HU9
  have HI : Hid (StI w B rB sB 0 0 0 w9) := hid (by
    have h1 := HSf.out.2.2
    have h2 := HrB.out
    refine ⟨HB9.out, ⟨_, HSf.out.2.1.upd HU9.out (by omega), rfl⟩, HBf.out.trans (HU9.out.below (by omega) HBf.out.size), by omega, h1⟩)
  clear HSf HBf HB9 HU9 HC Hll HrB
  go_wp2_with fail
  go_loopw [21] (fun v wr => ∃ k : Nat, k ≤ 4 ∧ v = .int .i64 (k : Int) ∧ Hid (StI w B rB sB k k k wr)) (fun v _ => 4 - (intOf v).toNat)
  case atStart => exact ⟨0, by omega, rfl, HI⟩
  case round =>
    clear HI
    obtain ⟨k, hk, rfl, HI⟩ := hrel
    by_cases hk4 : k < 4
    · have dk : decide ((k : Int) < 4) = true := decide_eq_true (by omega)
      have ik : (k : Int) < 4 := by omega
      obtain ⟨fa, fq, hcl⟩ := HM.out k hk4
      obtain ⟨a1, ha1⟩ : ∃ x, sK (fun m => (B.logs m).length) k = x := ⟨_, rfl⟩
      obtain ⟨y1, hy1⟩ : ∃ x, (B.logs k).length = x := ⟨_, rfl⟩
      have b1 : ∀ m, (B.logs m).length ≤ 1000000000 := fun m => by have := HBo.out.1.nl m; have := HBo.out.2; omega
      have i1a : (a1 : Int) ≤ 5000000000 := by have h1 := sK_le (f := fun m => (B.logs m).length) (N := 1000000000) b1 k; rw [ha1] at h1; omega
      have i1y : (y1 : Int) ≤ 1000000000 := by have h1 := b1 k; rw [hy1] at h1; omega
      rw [hy1] at hcl
      have Ha1 := hid ha1
      have Hy1 := hid hy1
      clear ha1 hy1 b1
      obtain ⟨a2, ha2⟩ : ∃ x, sK (fun m => (B.fresh m).length) k = x := ⟨_, rfl⟩
      obtain ⟨y2, hy2⟩ : ∃ x, (B.fresh k).length = x := ⟨_, rfl⟩
      have b2 : ∀ m, (B.fresh m).length ≤ 1000000000 := fun m => by have := HBo.out.1.nf m; have := HBo.out.2; omega
      have i2a : (a2 : Int) ≤ 5000000000 := by have h1 := sK_le (f := fun m => (B.fresh m).length) (N := 1000000000) b2 k; rw [ha2] at h1; omega
      have i2y : (y2 : Int) ≤ 1000000000 := by have h1 := b2 k; rw [hy2] at h1; omega
      rw [hy2] at hcl
      have Ha2 := hid ha2
      have Hy2 := hid hy2
      clear ha2 hy2 b2
      obtain ⟨a3, ha3⟩ : ∃ x, sK (fun m => (B.roots m).length) k = x := ⟨_, rfl⟩
      obtain ⟨y3, hy3⟩ : ∃ x, (B.roots k).length = x := ⟨_, rfl⟩
      have b3 : ∀ m, (B.roots m).length ≤ 1000000000 := fun m => by have := HBo.out.1.nr m; omega
      have i3a : (a3 : Int) ≤ 5000000000 := by have h1 := sK_le (f := fun m => (B.roots m).length) (N := 1000000000) b3 k; rw [ha3] at h1; omega
      have i3y : (y3 : Int) ≤ 1000000000 := by have h1 := b3 k; rw [hy3] at h1; omega
      rw [hy3] at hcl
      have Ha3 := hid ha3
      have Hy3 := hid hy3
      clear ha3 hy3 b3
      have HCl := hid hcl
      clear hcl HM HBo
      obtain ⟨X, W, HTT, H0, hne, HCc⟩ := class_below wr
      have e1 : ∀ y, (W y).cell? ⟨sB, 1, none⟩ = some (.int .i64 (a1 : Int)) := fun y => by rw [(HI.out.below (HTT.out y)).st.cell, ← Ha1.out]; rfl
      have e2 : ∀ y, (W y).cell? ⟨bB, 3 + k * 69 + 2, none⟩ = some (.int .i64 (y1 : Int)) := fun y => (HCl.out _ (HI.out.below (HTT.out y)).bel).1
      go_upto_region 6 with fail
      refine wp_region_class_lastT W rfl (by kernel_rfl) (by kernel_rfl) (by kernel_rfl) H0.out ?_
      dsimp only [List.dropLast]
      repeat (go_big_quiet_step (fail))
      refine wpQuiet_nil ?_
      intro z1
      have HZ1 := hid (HI.out.below (HTT.out z1))
      generalize W z1 = wz1 at HZ1 ⊢
      clear e1 e2 H0 HTT HCc hne HI
      have c1 : wz1.cell? ⟨sB, 1, none⟩ = some (.int .i64 (a1 : Int)) := by rw [HZ1.out.st.cell, ← Ha1.out]; rfl
      have f1 : wz1.frozen? ⟨sB, 1, none⟩ = false := HZ1.out.st.frozen 1
      have HI1 : Hid (StI w B rB sB (k + 1) k k (wz1.setCell ⟨sB, 1, none⟩ (.int .i64 ((a1 : Int) + (y1 : Int))))) := hid (HZ1.out.set 1 _ (by rw [← Ha1.out, ← Hy1.out]; rfl))
      go_upto_region 7 with fail
      clear c1 f1 HZ1
      generalize wz1.setCell ⟨sB, 1, none⟩ (.int .i64 ((a1 : Int) + (y1 : Int))) = wy1 at HI1 ⊢
      obtain ⟨X, W, HTT, H0, hne, HCc⟩ := class_below wy1
      have e1 : ∀ y, (W y).cell? ⟨sB, 2, none⟩ = some (.int .i64 (a2 : Int)) := fun y => by rw [(HI1.out.below (HTT.out y)).st.cell, ← Ha2.out]; rfl
      have e2 : ∀ y, (W y).cell? ⟨bB, 3 + k * 69 + 68, none⟩ = some (.slice fa y2 fq) := fun y => (HCl.out _ (HI1.out.below (HTT.out y)).bel).2.1
      go_upto_region 7 with fail
      refine wp_region_class_lastT W rfl (by kernel_rfl) (by kernel_rfl) (by kernel_rfl) H0.out ?_
      dsimp only [List.dropLast]
      repeat (go_big_quiet_step (fail))
      refine wpQuiet_nil ?_
      intro z2
      have HZ2 := hid (HI1.out.below (HTT.out z2))
      generalize W z2 = wz2 at HZ2 ⊢
      clear e1 e2 H0 HTT HCc hne HI1
      have c1 : wz2.cell? ⟨sB, 2, none⟩ = some (.int .i64 (a2 : Int)) := by rw [HZ2.out.st.cell, ← Ha2.out]; rfl
      have f1 : wz2.frozen? ⟨sB, 2, none⟩ = false := HZ2.out.st.frozen 2
      have HI2 : Hid (StI w B rB sB (k + 1) (k + 1) k (wz2.setCell ⟨sB, 2, none⟩ (.int .i64 ((a2 : Int) + (y2 : Int))))) := hid (HZ2.out.set 2 _ (by rw [← Ha2.out, ← Hy2.out]; rfl))
      go_upto_region 8 with fail
      clear c1 f1 HZ2
      generalize wz2.setCell ⟨sB, 2, none⟩ (.int .i64 ((a2 : Int) + (y2 : Int))) = wy2 at HI2 ⊢
      obtain ⟨X, W, HTT, H0, hne, HCc⟩ := class_below wy2
      have e1 : ∀ y, (W y).cell? ⟨sB, 3, none⟩ = some (.int .i64 (a3 : Int)) := fun y => by rw [(HI2.out.below (HTT.out y)).st.cell, ← Ha3.out]; rfl
      have e2 : ∀ y, (W y).cell? ⟨bB, 3 + k * 69 + 3 + 64, none⟩ = some (.int .i64 (y3 : Int)) := fun y => (HCl.out _ (HI2.out.below (HTT.out y)).bel).2.2
      go_upto_region 8 with fail
      refine wp_region_class_lastT W rfl (by kernel_rfl) (by kernel_rfl) (by kernel_rfl) H0.out ?_
      dsimp only [List.dropLast]
      repeat (go_big_quiet_step (fail))
      refine wpQuiet_nil ?_
      intro z3
      have HZ3 := hid (HI2.out.below (HTT.out z3))
      generalize W z3 = wz3 at HZ3 ⊢
      clear e1 e2 H0 HTT HCc hne HI2
      have c1 : wz3.cell? ⟨sB, 3, none⟩ = some (.int .i64 (a3 : Int)) := by rw [HZ3.out.st.cell, ← Ha3.out]; rfl
      have f1 : wz3.frozen? ⟨sB, 3, none⟩ = false := HZ3.out.st.frozen 3
      have HI3 : Hid (StI w B rB sB (k + 1) (k + 1) (k + 1) (wz3.setCell ⟨sB, 3, none⟩ (.int .i64 ((a3 : Int) + (y3 : Int))))) := hid (HZ3.out.set 3 _ (by rw [← Ha3.out, ← Hy3.out]; rfl))
      go_upto_region 9 with fail
      clear c1 f1 HZ3
      generalize wz3.setCell ⟨sB, 3, none⟩ (.int .i64 ((a3 : Int) + (y3 : Int))) = wy3 at HI3 ⊢
      clear HCl
      go_wp2
      exact ⟨⟨k + 1, by omega, by go_num, HI3⟩, by simp [intOf]; omega⟩
    · have dk : decide ((k : Int) < 4) = false := decide_eq_false (by omega)
      obtain rfl : k = 4 := by omega
      obtain ⟨cs, hrs, hcs⟩ := HI.out.rs
      have Hrs := hid hrs
      have Hcs := hid hcs
      clear hrs hcs HM HBo
      go_wp2_with (first | refine wpList_load_blk rfl 90 _ rfl sB rfl (stC B 4 4 4) HI.out.st _ Try.underlying90 rfl I0.out ?_ | (refine wpList_store_blk rfl 90 _ _ rfl rB rfl (stC B 4 4 4) rfl Hrs.out Hcs.out I0.out (stC_one B 4 4 4) ?_; intro w9 HB9 HU9))
      exact bodyPost_ret (results_blk (cs := stC B 4 4 4) Try.results38 rfl aggSt HB9.out) rfl ⟨rfl, HI.out.bel.trans (HU9.out.below HI.out.lo HI.out.bel.size)⟩
end
end Go.Proofs.Qxb6500888a
