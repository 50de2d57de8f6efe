/- The ground: Free. -/
import Derived.Test.Qxb6500888aBaG4
namespace Go.Proofs.Qxb6500888a
open Go.RowKit
set_option linter.unusedSimpArgs false
set_option linter.unusedVariables false

@[irreducible] def offA (a : Nat) : Nat := a - 65536
theorem offA_add (s : Nat) : offA (65536 + s) = s := by unfold offA; omega
theorem offA_eq {a s : Nat} (h : 65536 + s = a) : offA a = s := by rw [← h]; exact offA_add s
def eraseG (G : GS) (a : Nat) : GS := { G with head := fup G.head a none, word := fillF G.word (offA a) (szOf G a + 1) 0, lg := fillF G.lg (offA a) (szOf G a + 1) false }
def freeG (G : GS) (a : Nat) : GS := { eraseG G a with tk := fillF G.tk (offA a) (szOf G a + 1) false, cnt := fup G.cnt a 0, deaths := G.deaths ++ [a] }
section
variable {w : World} {ρ : Rl} {L : GL} {G : GS}
set_option maxRecDepth 1000000 in
set_option maxHeartbeats 4000000 in
theorem rfree_walk (h : GM w ρ L G) {a s : Nat} (ha : 65536 + s = a) {n : Nat} (hsz : szOf G a = n) (hn : s + n < 32768) (hd : G.deaths.length ≤ 1000000000000) : Calls Try.prog 80 #[.pointer (some ⟨L.cB, 0, none⟩), .int .u64 (a : Int)] w fun e w' => e = .returned (.tuple #[]) ∧ GP w ρ L (freeG G a) w' := by
  have HH := hid h
  have c0 := h.ccells.1
  have H1 := hid (shapeOf_walk h a)
  obtain ⟨q, hq⟩ : ∃ q, ((G.head a).getD (0, 0)).2 = q := ⟨_, rfl⟩
  have hsh : (G.head a).getD (0, 0) = (n, q) := Prod.ext hsz hq
  rw [hsh] at H1
  obtain ⟨bb, hbb⟩ : ∃ b, (G.head a).isSome = b := ⟨_, rfl⟩
  rw [hbb] at H1
  unfold shV at H1
  dsimp only at H1
  have Ha := hid (And.intro ha (And.intro hsz (And.intro hn hd)))
  have i1 : (n : Int) < 32768 := by omega
  clear h hq hsh hbb ha hsz hn hd
  go_enter Try.func80, Try.ntmps80
  go_wp2_with fail
  refine H1.out.mono ?_
  rintro e1 w1 ⟨rfl, hb1⟩
  have HB1 := hid hb1
  clear H1 c0 hb1
  obtain ⟨g, hg⟩ : ∃ g, w1.heap.size = g := ⟨_, rfl⟩
  go_upto_region 1 with fail
  obtain ⟨w2, hw2⟩ : ∃ w2, w1.alloc (.cells #[.int .i64 (n : Int), .int .i64 (q : Int)] 73) = w2 := ⟨_, rfl⟩
  have HN2 : Hid (Blk w2 g 73 [.int .i64 (n : Int), .int .i64 (q : Int)]) := hid (by
    rw [← hw2, ← hg]
    exact Blk.new w1 [.int .i64 (n : Int), .int .i64 (q : Int)] 73)
  have HB2 : Hid (Below w1.heap.size w1 w2) := hid (by
    rw [← hw2]
    exact nbel w1 _)
  (try simp only [hw2])
  have Hg := hid hg
  clear hw2 hg
  have HM2 := hid ((HH.out.below HB1.out).below HB2.out)
  have HF2 := hid ((Fr.below HB1.out : Fr gX ρ w ρ w1).trans (Fr.below HB2.out))
  have Hg0 : Hid (ρ g = 0) := hid (by
    by_cases e : ρ g = 0
    · exact e
    · have := (HH.out.below HB1.out).dom g e
      rw [Hg.out] at this
      omega)
  have c0 := HM2.out.ccells.1
  have H3 := hid (erase_walk HM2.out Ha.out.1 Ha.out.2.1 Ha.out.2.2.1)
  clear HB1 HB2 HH
  go_wp2_with fail
  refine H3.out.mono ?_
  rintro e3 w3 ⟨rfl, hm3, hf3⟩
  have HM3 := hid hm3
  have HF3 := hid (HF2.out.trans hf3)
  have HN3 : Hid (Blk w3 g 73 [.int .i64 (n : Int), .int .i64 (q : Int)]) := hid (hf3.keep HN2.out Hg0.out rfl)
  clear H3 hm3 hf3 HM2 HF2 c0 HN2
  obtain ⟨X, W, HTT, H0, hne, HC⟩ := class_below w3
  have c1 : ∀ y, (W y).cell? ⟨L.cB, 1, none⟩ = some (.pointer (some ⟨L.sB, 0, none⟩)) := fun y => (HM3.out.below (HTT.out y)).ccells.2.1
  have c2 : ∀ y, (W y).cell? ⟨g, 0, none⟩ = some (.int .i64 (n : Int)) := fun y => (HN3.out.below (HTT.out y)).cell 0
  go_upto_region 2 with fail
  refine wp_region_class_lastT W rfl (by kernel_rfl) (by kernel_rfl) (by kernel_rfl) H0.out ?_
  dsimp only [List.dropLast]
  repeat (go_big_quiet_step (fail))
  refine wpQuiet_nil ?_
  intro z
  have HZ := hid (HTT.out z)
  generalize W z = wz at HZ ⊢
  clear c1 c2 H0 HTT HC hne
  have HM4 := hid (HM3.out.below HZ.out)
  have HF4 := hid (HF3.out.trans (Fr.below HZ.out))
  have H5 := hid (release_walk HM4.out Ha.out.1 (n + 1) (by have := Ha.out.2.2.1; omega) (by have := Ha.out.2.2.1; omega))
  rw [show ((n + 1 : Nat) : Int) = 1 + (n : Int) by omega] at H5
  clear HM3 HF3 HN3 HZ
  go_wp2_with fail
  refine H5.out.mono ?_
  rintro e5 w5 ⟨rfl, hm5, hf5⟩
  have HM5 := hid hm5
  have HF5 := hid (HF4.out.trans hf5)
  have c2 := hm5.ccells.2.2.1
  obtain ⟨w6, hr6, hm6, hf6⟩ := hm5.delC a 0
  have HM6 := hid hm6
  have HF6 := hid (HF5.out.trans hf6)
  clear H5 hm5 hf5 HM4 HF4 hm6 hf6 HF5 HM5
  go_upto_region 4 with fail
  clear hr6 c2
  have c5 := HM6.out.ccells.2.2.2.2.2.1
  obtain ⟨ax, cq, hv⟩ := (HM6.out.dl rfl).shape
  rw [hv] at c5
  have HV := hid hv
  obtain ⟨m, hm⟩ : ∃ m, G.deaths.length = m := ⟨_, rfl⟩
  have Hm := hid hm
  rw [show GS.deaths _ = G.deaths from rfl, hm] at c5
  clear hv hm
  go_wp2_with (at_builtin; refine stopHere ?_)
  intro _
  obtain ⟨wf, hwf⟩ : ∃ wf, w6.alloc (.cells #[.int .u64 (a : Int)] 48) = wf := ⟨_, rfl⟩
  have HBf : Hid (Below w6.heap.size w6 wf) := hid (by rw [← hwf]; exact nbel w6 _)
  have HNw : Hid (∀ ad, some (⟨w6.heap.size, 0, none⟩ : Addr) = some ad → ∀ j u, ([a].flatMap rtA.f)[j]? = some u → wf.cell? (ad.add j) = some u) := hid (by rw [← hwf]; exact newX rtA w6 a _ rfl)
  (try simp only [hwf])
  clear hwf c5
  have HHf := hid (HM6.out.below HBf.out)
  have hrf := HHf.out.dl rfl
  rw [HV.out, show GS.deaths _ = G.deaths from rfl, Hm.out] at hrf
  refine wpList_app_x okA rfl _ _ hrf rfl [a] rfl (some ⟨w6.heap.size, 0, none⟩) 1 1 rfl rfl (fun h => by cases h) HNw.out (by have := Ha.out.2.2.2; show (G.deaths.length + 1) * 8 ≤ _; omega) ?_
  intro v8 w8 ρ8 hr8 hf8 _ _
  obtain ⟨a8, k8, h8⟩ := hr8.out.shape
  rw [List.length_append, List.length_singleton, Hm.out] at h8
  subst h8
  have HM8 := hid (HHf.out.setD hf8.out hr8.out)
  have HF8 : Hid (Fr gX ρ w ρ8 (w8.setCell ⟨L.cB, 5, none⟩ (.slice a8 (m + 1) k8))) := hid ((HF6.out.trans (Fr.below HBf.out)).trans HM8.out.2)
  have hk8 : w8.heap[L.cB]? = wf.heap[L.cB]? := hf8.out.blk _ (HHf.out.cb rfl).lt (by rw [HHf.out.r6]; rfl)
  have c8 : w8.cell? ⟨L.cB, 5, none⟩ = some (.slice ax m cq) := by rw [World.cell?_of_block hk8, ← Hm.out, ← HV.out]; exact HHf.out.ccells.2.2.2.2.2.1
  have f8 : w8.frozen? ⟨L.cB, 5, none⟩ = false := by rw [World.frozen?_of_block hk8]; exact (HHf.out.cb rfl).frozen _
  clear hrf hr8 hf8 hk8 HNw HHf HBf HF6 HM6
  go_wp2
  refine bodyPost_end (v := .tuple #[]) (by simp [results, Try.results80, go_sem]) rfl ⟨rfl, { L with dv := .slice a8 (m + 1) k8 }, ρ8, ?_, ⟨rfl, rfl, rfl, rfl, rfl, rfl, rfl, rfl, rfl⟩, HF8.out⟩
  unfold freeG eraseG
  rw [offA_eq Ha.out.1, Ha.out.2.1]
  exact HM8.out.1
end
end Go.Proofs.Qxb6500888a
