/- The barrier: each (whatever the closure). -/
import Derived.Test.Qxb6500888aBaB7
namespace Go.Proofs.Qxb6500888a
open Go.RowKit
set_option linter.unusedSimpArgs false
set_option linter.unusedVariables false

/-- How many segments are still to come. -/
def segLeft (ids : List Nat) : Value → Nat
  | .pointer (some a) => ids.length - ids.idxOf a.block
  | _ => 0
theorem segLeft_at {ids : List Nat} (hn : ids.Nodup) {i s : Nat} (h : ids[i]? = some s) : segLeft ids (ptrO (some s)) = ids.length - i := by
  show ids.length - ids.idxOf s = _
  obtain ⟨h1, h2⟩ := List.getElem?_eq_some_iff.1 h
  rw [← h2, hn.idxOf_getElem i h1]
theorem segLeft_next {ids : List Nat} (hn : ids.Nodup) {i s : Nat} (h : ids[i]? = some s) : segLeft ids (ptrO ids[i + 1]?) < segLeft ids (ptrO (some s)) := by
  rw [segLeft_at hn h]
  have hi := (List.getElem?_eq_some_iff.1 h).1
  cases e : ids[i + 1]? with
  | none => show 0 < _; omega
  | some t =>
    have := segLeft_at hn e
    rw [this]
    have := (List.getElem?_eq_some_iff.1 e).1
    omega
set_option maxRecDepth 1000000 in
set_option maxHeartbeats 8000000 in
theorem each_walk {ids : List Nat} {lg : List (Nat × Nat)} (fid : FuncId) (cp : Array Value) (bB q : Nat) (w : World) (I : Nat → World → Prop) (hfirst : w.cell? ⟨bB, q, none⟩ = some (ptrO ids.head?)) (hI : I 0 w)
    (hch : ∀ k w1, I k w1 → Chn w1 ids lg) (hbel : ∀ k w1 w2, I k w1 → Below w1.heap.size w1 w2 → I k w2)
    (hcall : ∀ k p w1, lg[k]? = some p → I k w1 → Calls Try.prog fid (#[.agg #[.int .u64 (p.1 : Int), .int .u64 (p.2 : Int)]] ++ cp) w1 (fun e w' => e = .returned (.tuple #[]) ∧ I (k + 1) w')) (hnd : ids.Nodup) (hent : ∀ args w, (callFunc fid args).run Try.prog w = .ok (.enter fid args) w) :
    Calls Try.prog 71 #[.pointer (some ⟨bB, q, none⟩), .func (.func fid) #[] cp] w fun e w' => e = .returned (.tuple #[]) ∧ I lg.length w' := by
  have HCh := hid hch
  have HBe := hid hbel
  have HCa := hid hcall
  have HI := hid hI
  have Hnd := hid hnd
  obtain ⟨hd, hhd⟩ : ∃ v, ptrO ids.head? = v := ⟨_, rfl⟩
  rw [hhd] at hfirst
  have HHd := hid hhd
  clear hch hbel hcall hI hnd hhd
  have hpv : ∃ a, hd = .pointer a := by rw [← HHd.out]; cases ids.head? <;> exact ⟨_, rfl⟩
  obtain ⟨a0, rfl⟩ := hpv
  go_enter Try.func71, Try.ntmps71
  go_wp2_with fail
  go_loopw [4] (fun v wr => ∃ (i : Nat) (a : Option Addr), v = .pointer a ∧ Hid (Value.pointer a = ptrO ids[i]?) ∧ i ≤ ids.length ∧ Hid (I (min lg.length (16 * i)) wr)) (fun v _ => segLeft ids v)
  case atStart => exact ⟨0, a0, rfl, hid (by rw [← HHd.out]; cases ids <;> rfl), by omega, hid (by rw [show min lg.length (16 * 0) = 0 by omega]; exact HI.out)⟩
  case round =>
    obtain ⟨i, a, rfl, Hv, hi, HI1⟩ := hrel
    clear HI hfirst HHd
    have hv := Hv.out
    clear Hv
    cases hs : ids[i]? with
    | none =>
      as_aux_lemma =>
      rw [hs] at hv
      have hv' : a = none := by injection hv
      subst hv'
      clear hv
      have HR : Hid (I lg.length wr) := hid (by
        have h1 := (HCh.out _ _ HI1.out).len
        have h2 : ids.length ≤ i := by
          rcases Nat.lt_or_ge i ids.length with h | h
          · rw [List.getElem?_eq_getElem h] at hs; cases hs
          · exact h
        have h3 := HI1.out
        rw [show min lg.length (16 * i) = lg.length by omega] at h3
        exact h3)
      go_wp2
      exact bodyPost_end (v := .tuple #[]) (by simp [results, Try.results71, go_sem]) rfl ⟨rfl, HR.out⟩
    | some s =>
      rw [hs] at hv
      have hv' : a = some ⟨s, 0, none⟩ := by injection hv
      subst hv'
      clear hv
      have Hs := hid hs
      have hil := (List.getElem?_eq_some_iff.1 hs).1
      obtain ⟨u, hu⟩ : ∃ u, min 16 (lg.length - 16 * i) = u := ⟨_, rfl⟩
      have hln := (HCh.out _ _ HI1.out).len
      have hmin : min lg.length (16 * i) = 16 * i := by omega
      rw [hmin] at HI1
      have Hu : Hid (u ≤ 16 ∧ 16 * i + u ≤ lg.length ∧ min lg.length (16 * (i + 1)) = 16 * i + u) := hid (by omega)
      have HU := hid hu
      have hu16 : u ≤ 16 := Hu.out.1
      clear hs hln hmin hu hil
      obtain ⟨X, W, HTT, H0, hne, HC⟩ := class_below wr
      have HSg : Hid (∀ k w1, I k w1 → ∃ c, Blk w1 s 152 (fnC 34 (sgF c u ids[i + 1]?)) ∧ ∀ j p, j < 16 → lg[16 * i + j]? = some p → c (2 * j) = p.1 ∧ c (2 * j + 1) = p.2) := hid (fun k w1 h => by
        have := (HCh.out k w1 h).sg i s Hs.out
        rw [HU.out] at this
        exact this)
      have e1 : ∀ y, (W y).cell? ⟨s, 32, none⟩ = some (.int .i64 (u : Int)) := fun y => by
        obtain ⟨c, hb, _⟩ := HSg.out _ _ (HBe.out _ _ _ HI1.out (HTT.out y))
        exact sg_used hb
      have iu : (u : Int) ≤ 16 := by omega
      go_upto_region 3 with fail
      refine wp_region_class W (by kernel_rfl) (by kernel_rfl) H0.out ?_
      repeat (go_big_quiet_step (fail))
      refine wpQuiet_nil ?_
      intro z
      have HIz := hid (HBe.out _ _ _ HI1.out (HTT.out z))
      generalize W z = wz at HIz ⊢
      clear e1 H0 HTT HC hne HI1
      go_wp2_with fail
      go_loopw [26] (fun v wq => ∃ j : Nat, j ≤ u ∧ v = .int .i64 (j : Int) ∧ Hid (I (16 * i + j) wq)) (fun v _ => u - (intOf v).toNat)
      case atStart => exact ⟨0, by omega, rfl, HIz⟩
      case round =>
        obtain ⟨j, hj, rfl, HI2⟩ := hrel
        clear HIz
        by_cases hlt : j < u
        · have dk : decide ((j : Int) < (u : Int)) = true := decide_eq_true (by omega)
          obtain ⟨c, hb, hen⟩ := HSg.out _ _ HI2.out
          have hlen : 16 * i + j < lg.length := by have := Hu.out.2.1; omega
          obtain ⟨p, hp⟩ : ∃ p, lg[16 * i + j]? = some p := ⟨_, List.getElem?_eq_getElem hlen⟩
          have hpe := hen j p (by omega) hp
          have c1 := sg_ent hb (k := j * 2) (by omega)
          have c2 := sg_ent hb (k := j * 2 + 1) (by omega)
          rw [show j * 2 = 2 * j by omega, hpe.1] at c1
          rw [show j * 2 + 1 = 2 * j + 1 by omega, hpe.2] at c2
          rw [show 2 * j = j * 2 by omega] at c1
          rw [show 2 * j + 1 = j * 2 + 1 by omega] at c2
          have HPp := hid hp
          have ij : (j : Int) < 16 := by omega
          obtain ⟨p1, p2⟩ := p
          dsimp only at c1 c2
          clear hb hen hpe hlen hp
          obtain ⟨g, hg⟩ : ∃ g, wr.heap.size = g := ⟨_, rfl⟩
          go_upto_region 6 with fail
          obtain ⟨wy, hwy⟩ : ∃ wy, wr.alloc (.cells #[.int .u64 (p1 : Int), .int .u64 (p2 : Int)] 59) = wy := ⟨_, rfl⟩
          have HIy : Hid (I (16 * i + j) wy) := hid (HBe.out _ _ _ HI2.out (by rw [← hwy]; exact nbel _ _))
          have HNy : Hid (Blk wy g 59 [.int .u64 (p1 : Int), .int .u64 (p2 : Int)]) := hid (by rw [← hwy, ← hg]; exact Blk.new _ [.int .u64 (p1 : Int), .int .u64 (p2 : Int)] _)
          (try simp only [hwy])
          clear hwy hg c1 c2 HI2 dk
          have c1 := HNy.out.cell 0
          have c2 := HNy.out.cell 1
          simp only [List.getElem?_cons_zero, List.getElem?_cons_succ] at c1 c2
          have HCl := hid (HCa.out _ _ _ HPp.out HIy.out)
          go_wp2_with fail
          refine HCl.out.mono ?_
          rintro e5 w5 ⟨rfl, h5⟩
          have HI5 : Hid (I (16 * i + (j + 1)) w5) := hid h5
          clear h5 HCl HIy HNy c1 c2
          go_wp2
          exact ⟨⟨j + 1, by omega, by go_num, HI5⟩, by simp [intOf]; omega⟩
        · as_aux_lemma =>
          have dk : decide ((j : Int) < (u : Int)) = false := decide_eq_false (by omega)
          have hju : j = u := by omega
          rw [hju] at HI2
          obtain ⟨c, hb, _⟩ := HSg.out _ _ HI2.out
          have c3 := sg_next hb
          have HR : Hid (I (min lg.length (16 * (i + 1))) wr) := hid (by rw [Hu.out.2.2]; exact HI2.out)
          have Hlt := hid (segLeft_next Hnd.out Hs.out)
          have hil := (List.getElem?_eq_some_iff.1 Hs.out).1
          clear hb
          have Hpv : Hid (∃ a, ptrO ids[i + 1]? = .pointer a) := hid (by cases ids[i + 1]? <;> exact ⟨_, rfl⟩)
          obtain ⟨a, ha⟩ := Hpv.out
          rw [ha] at c3 Hlt
          have Ha : Hid (Value.pointer a = ptrO ids[i + 1]?) := hid ha.symm
          clear ha Hpv
          go_wp2
          exact ⟨⟨i + 1, a, rfl, Ha, by omega, HR⟩, Hlt.out⟩
theorem ent_log (args : Array Value) (w : World) : (callFunc 72 args).run Try.prog w = .ok (.enter 72 args) w := by
  simp [callFunc, Try.func72, Try.f72]
end Go.Proofs.Qxb6500888a
