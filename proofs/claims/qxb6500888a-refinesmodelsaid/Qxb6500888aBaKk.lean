/- The model made: barrierm.New. -/
import Derived.Test.Qxb6500888aBaKo
namespace Go.Proofs.Qxb6500888a
open Go.RowKit
set_option linter.unusedSimpArgs false
set_option linter.unusedVariables false
attribute [local irreducible] bitC wdC

theorem mf_of {W W3 : World} {m : Nat} (h : MF W3 m (fun _ => none)) (e : W.heap[m]? = W3.heap[m]?) : MF W m (fun _ => none) := MF.of h e
theorem bel_all {W X : World} (h : Below W.heap.size W X) (o : Obj) : Below W.heap.size W (X.alloc o) := h.trans ((nbel X o).mono h.size)
theorem bel_drew {W X : World} (h : Below W.heap.size W X) : Below W.heap.size W X.drew := h.trans (Drew.below ⟨1, rfl⟩ _)
theorem bel_call {W X Z : World} {B : Nat} (hB : W.heap.size ≤ B) (c : Below B X Z) (h : Below W.heap.size W X) : Below W.heap.size W Z := h.trans (c.mono hB)
set_option maxRecDepth 100000 in
set_option maxHeartbeats 16000000 in
theorem mNew_walk (w : World) : Calls Try.prog 15 #[] w fun e w' => NmP w e w' := by
  have H1 := hid (aNew_walk w)
  go_enter Try.func15, Try.ntmps15
  go_wp2_with fail
  refine H1.out.mono ?_
  rintro e1 w1 ⟨hB, mH, dB, lB, rfl, hn1⟩
  have HN1 := hid hn1
  have H2 := hid (sNew_walk w1)
  clear H1 hn1
  go_wp2_with fail
  refine H2.out.mono ?_
  rintro e2 w2 ⟨rfl, s1, s2, s3, s4⟩
  have HN2 := hid (And.intro s1 (And.intro s2 (And.intro s3 s4)))
  clear H2 s1 s2 s3 s4
  obtain ⟨tB, htB⟩ : ∃ t, w1.heap.size = t := ⟨_, rfl⟩
  rw [htB] at HN2
  simp only [htB]
  have HtB := hid htB
  obtain ⟨sB, hsB⟩ : ∃ t, tB + 1 = t := ⟨_, rfl⟩
  rw [hsB] at HN2
  simp only [hsB]
  have HsB := hid hsB
  clear htB hsB
  go_upto_region 2 with fail
  go_cut [0] from 5 to 14 (fun u0 wc => Hid (∃ cB mC mP aB mW mF mB, u0 = .pointer (some ⟨mB, 0, none⟩) ∧ RgN w2 hB sB cB mC mP aB mW mF mB wc))
  case first =>
    have h2 := make_wd
    have hmk := @run_makeMap Try.prog
    clear HN1 HN2 HtB HsB
    go_region_with (go_at_call 41; refine (cNew_walk hB sB _).mono ?_; rintro e3 w3 ⟨rfl, c1, c2, c3, c4, c5⟩)
    all_goals clear h2 hmk
    all_goals
      unfold Blk at c1
      simp only [World.size_alloc, World.size_drew] at c1 c2 c3 c4 c5
      go_wp2
      go_meet
      refine hid ?_
      apply RgN.of
      case mb => exact at_new (by (((try simp only [World.size_alloc, World.size_drew, c5]) <;> omega)))
      case cb => (repeat' (first | with_reducible exact c1 | with_reducible rfl | (with_reducible refine at_drew ?_) | (with_reducible refine at_call c4 ?hh ?_; case hh => (((try simp only [World.size_alloc, World.size_drew, c5]) <;> omega))) | (with_reducible refine at_old ?hh ?_; case hh => (((try simp only [World.size_alloc, World.size_drew, c5]) <;> omega))) | (refine at_new ?hh; case hh => (((try simp only [World.size_alloc, World.size_drew, c5]) <;> omega)))))
      case mc => refine mf_of c2 ?_; (repeat' (first | with_reducible exact c1 | with_reducible rfl | (with_reducible refine at_drew ?_) | (with_reducible refine at_call c4 ?hh ?_; case hh => (((try simp only [World.size_alloc, World.size_drew, c5]) <;> omega))) | (with_reducible refine at_old ?hh ?_; case hh => (((try simp only [World.size_alloc, World.size_drew, c5]) <;> omega))) | (refine at_new ?hh; case hh => (((try simp only [World.size_alloc, World.size_drew, c5]) <;> omega)))))
      case mp => refine mf_of c3 ?_; (repeat' (first | with_reducible exact c1 | with_reducible rfl | (with_reducible refine at_drew ?_) | (with_reducible refine at_call c4 ?hh ?_; case hh => (((try simp only [World.size_alloc, World.size_drew, c5]) <;> omega))) | (with_reducible refine at_old ?hh ?_; case hh => (((try simp only [World.size_alloc, World.size_drew, c5]) <;> omega))) | (refine at_new ?hh; case hh => (((try simp only [World.size_alloc, World.size_drew, c5]) <;> omega)))))
      case ab => (repeat' (first | with_reducible exact c1 | with_reducible rfl | (with_reducible refine at_drew ?_) | (with_reducible refine at_call c4 ?hh ?_; case hh => (((try simp only [World.size_alloc, World.size_drew, c5]) <;> omega))) | (with_reducible refine at_old ?hh ?_; case hh => (((try simp only [World.size_alloc, World.size_drew, c5]) <;> omega))) | (refine at_new ?hh; case hh => (((try simp only [World.size_alloc, World.size_drew, c5]) <;> omega)))))
      case mw => (repeat' (first | with_reducible exact c1 | with_reducible rfl | (with_reducible refine at_drew ?_) | (with_reducible refine at_call c4 ?hh ?_; case hh => (((try simp only [World.size_alloc, World.size_drew, c5]) <;> omega))) | (with_reducible refine at_old ?hh ?_; case hh => (((try simp only [World.size_alloc, World.size_drew, c5]) <;> omega))) | (refine at_new ?hh; case hh => (((try simp only [World.size_alloc, World.size_drew, c5]) <;> omega)))))
      case mf => (repeat' (first | with_reducible exact c1 | with_reducible rfl | (with_reducible refine at_drew ?_) | (with_reducible refine at_call c4 ?hh ?_; case hh => (((try simp only [World.size_alloc, World.size_drew, c5]) <;> omega))) | (with_reducible refine at_old ?hh ?_; case hh => (((try simp only [World.size_alloc, World.size_drew, c5]) <;> omega))) | (refine at_new ?hh; case hh => (((try simp only [World.size_alloc, World.size_drew, c5]) <;> omega)))))
      case be => repeat' (first | with_reducible exact Below.refl _ _ | (with_reducible refine bel_all ?_ _) | (with_reducible refine bel_drew ?_) | (with_reducible refine bel_call ?hh c4 ?_; case hh => (((try simp only [World.size_alloc, World.size_drew, c5]) <;> omega))))
      case ge => refine ⟨?_, ?_, ?_, ?_, ?_, ?_, ?_⟩ <;> (((try simp only [World.size_alloc, World.size_drew, c5]) <;> omega))
      case n1 => refine ⟨?_, ?_, ?_, ?_, ?_, ?_, ?_, ?_, ?_, ?_, ?_⟩ <;> (((try simp only [World.size_alloc, World.size_drew, c5]) <;> omega))
      case n2 => refine ⟨?_, ?_, ?_, ?_, ?_, ?_, ?_, ?_, ?_, ?_⟩ <;> (((try simp only [World.size_alloc, World.size_drew, c5]) <;> omega))
  case rest =>
    obtain ⟨cB, mC, mP, aB, mW, mF, mB, rfl, hr⟩ := hcut.out
    have HR := hid (NmP.of HN1.out HN2.out.1 HN2.out.2.1 HN2.out.2.2.1 HN2.out.2.2.2 HtB.out HsB.out hr)
    clear hr HN1 HN2 HtB HsB hcut
    go_wp2
    exact bodyPost_ret (v := .pointer (some ⟨mB, 0, none⟩)) (by simp [results, Try.results15, go_sem]) rfl HR.out
end Go.Proofs.Qxb6500888a
