/- fieldsSound and links, exactly; own records (written by tools/mk_at1.py). -/
import Derived.Test.Qxb6500887aGreatAv6
import Derived.Test.Qxb6500887aGreatAwA
import Derived.Deep.DeepCutAuto
namespace Go.Proofs.Qxb6500887aGreat
open Go.RowKit
set_option linter.unusedSimpArgs false
set_option linter.unusedVariables false
section
variable {B : World → Prop} {w w' w0 : World} {gs : List (Nat × TypeId × List Value)} {g k : Nat} {t : TypeId} {cs cs' ds : List Value}
theorem OwV.drop {x : Nat × TypeId × List Value} (h : OwV B w0 (x :: gs) w) : OwV B w0 gs w := ⟨h.b0, h.st, h.bel, fun p hp => h.own p (List.mem_cons_of_mem _ hp), fun p hp => h.lo p (List.mem_cons_of_mem _ hp), (List.nodup_cons.1 h.nd).2⟩
theorem OwV.newSet (h : OwV B w0 gs w) (hg : w.heap.size = g) (hu : Upd g (w.alloc (.cells cs.toArray t)) w') (hb : Blk w' g t ds) : OwV B w0 ((g, t, ds) :: gs) w' := (h.new hg t cs).whole (k := 0) rfl hu hb
end
section
variable {l : AL} {S : AS} {w w' w0 : World} {p q : Nat} {cs : List Value} {o : Ob}
theorem lnF_eq (S : AS) (k : Nat) : ∀ n, ((rfsL S k n).filter fun (x : Nat) => decide (rfOk (x : Int))).length = lnF S.W k n
  | 0 => rfl
  | n + 1 => by
    have ih := lnF_eq S k n
    show _ = lnF S.W k n + (lkB (S.W (k + n))).toNat
    rw [rfsL_step, List.filter_append, List.length_append, ih]
    congr 1
    unfold lkB
    by_cases h0 : S.W (k + n) = 0
    · rw [if_pos h0, h0]; rfl
    · rw [if_neg h0]
      by_cases h1 : rfOk ((S.W (k + n) : Nat) : Int)
      · have h2 : (S.W (k + n) == 0) = false := by simpa using h0
        simp [h1, h2]
      · simp [h1, h0]
theorem linksX (h : AM l S w) (ho : ObOk o) : Calls Tryz.prog 267 #[.agg #[.pointer (some ⟨l.a, 0, none⟩), .int .i64 (o.k : Int), .int .u64 (o.raw : Int), .int .i64 (o.sz : Int), .int .i64 (o.rf : Int)]] w fun e w' => e = .returned (.int .i64 ((lnF S.W (o.k + 1) o.rf : Nat) : Int)) ∧ Hid (Below w.heap.size w w') := by
  rw [← lnF_eq]
  exact linksZ h ho
set_option maxRecDepth 100000 in
set_option maxHeartbeats 2000000 in
theorem fieldsSoundX (h : AM l S w) (ho : ObOk o) : Calls Tryz.prog 264 #[.agg #[.pointer (some ⟨l.a, 0, none⟩), .int .i64 (o.k : Int), .int .u64 (o.raw : Int), .int .i64 (o.sz : Int), .int .i64 (o.rf : Int)]] w fun e w' => ∃ b : Bool, e = .returned (.bool b) ∧ Hid ((b = true ↔ rfAll S (o.k + 1) o.rf) ∧ Below w.heap.size w w') := by
  obtain ⟨p, hp⟩ : ∃ p, w.heap.size = p := ⟨_, rfl⟩
  have HX : Hid (OX w l S p (obL l o) (w.alloc (.cells #[.pointer (some ⟨l.a, 0, none⟩), .int .i64 (o.k : Int), .int .u64 (o.raw : Int), .int .i64 (o.sz : Int), .int .i64 (o.rf : Int)] 61))) := hid (OX.new (cs := (obL l o)) h (Below.refl _ w) hp)
  have HA := hid h
  have o2 := ho.s2
  have o3 := ho.rf
  have o4 := ho.k
  obtain ⟨n, hn⟩ : ∃ n, o.rf = n := ⟨_, rfl⟩
  obtain ⟨f, hf⟩ : ∃ f, o.k + 1 = f := ⟨_, rfl⟩
  have ef : (o.k : Int) + 1 = (f : Int) := by omega
  have Hn := hid hn
  rw [hn] at o3
  have hkb : f + n ≤ 32768 := by omega
  have d1 : ¬ (32768 = f) := by have := ho.s1; omega
  have e1 : f + n - f = n := by omega
  have HNF : Hid (o.rf = n ∧ o.k + 1 = f) := hid ⟨hn, hf⟩
  clear h ho hn hf
  go_enter Tryz.func264, Tryz.ntmps264
  go_upto_region 1 with fail
  (try simp only [hp])
  generalize hw1 : w.alloc _ = w1 at HX ⊢
  clear hw1 hp
  have p0 := HX.out.bk.cell 0
  have p1 := HX.out.bk.cell 1
  have p2 := HX.out.bk.cell 2
  have p3 := HX.out.bk.cell 3
  have p4 := HX.out.bk.cell 4
  simp only [obL, List.getElem?_cons_zero, List.getElem?_cons_succ] at p0 p1 p2 p3 p4
  rw [Hn.out] at p4
  have a0 := HX.out.am.cells.1
  go_upto_region 2 with fail
  go_region
  go_wp2_with fail
  simp only [e1]
  have HB0 : Hid (Below w.heap.size w w1.drew) := hid (HX.out.below (Drew.below ⟨1, rfl⟩ _)).bel
  clear a0 p0 p1 p2 p3 p4 HX
  go_loopw [24] (fun u wr => ∃ q : Nat, u = .int .i64 (q : Int) ∧ q ≤ n ∧ Hid (rfAll S f q) ∧ Hid (Below w.heap.size w wr)) (fun u _ => n - (intOf u).toNat)
  case atStart => exact ⟨0, rfl, Nat.zero_le _, hid (fun i hi => absurd hi (Nat.not_lt_zero _)), HB0⟩
  case round =>
  clear HB0
  obtain ⟨q, rfl, hq, HR, HK⟩ := hrel
  by_cases hqn : q < n
  rotate_left
  · as_aux_lemma =>
    have dq : decide ((q : Int) < (n : Int)) = false := decide_eq_false (by omega)
    have HF : Hid (rfAll S f n) := hid (by rw [show n = q by omega]; exact HR.out)
    go_wp2
    go_ret
    exact ⟨true, rfl, hid ⟨by rw [HNF.out.1, HNF.out.2]; exact ⟨fun _ => HF.out, fun _ => rfl⟩, HK.out⟩⟩
  as_aux_lemma =>
  have dq : decide ((q : Int) < (n : Int)) = true := decide_eq_true (by omega)
  have cw := (HA.out.below HK.out).word (i := f + q) (by omega)
  have HCk := hid (fun wz => checkRefZ ((S.W (f + q) : Nat) : Int) wz)
  have HX0 : Hid (rfAll S f (q + 1) ↔ rfOk ((S.W (f + q) : Nat) : Int)) := hid ⟨fun h => h q (by omega), fun h i hi => by
    by_cases e : i = q
    · rw [e]; exact h
    · exact HR.out i (by omega)⟩
  generalize S.W (f + q) = x at *
  by_cases hr : rfOk (x : Int)
  rotate_left
  · as_aux_lemma =>
    rw [if_neg hr, if_neg hr] at HCk
    have HF : Hid (¬ rfAll S f n) := hid (fun h => hr (HX0.out.1 (fun i hi => h i (by omega))))
    clear hr
    (go_wp2_with fail; refine (HCk.out wr).mono ?_; rintro e_ w_ ⟨he_, hw_⟩; subst he_; have hs_ := hw_.symm; clear hw_; subst hs_)
    go_wp2
    go_ret
    exact ⟨false, rfl, hid ⟨by rw [HNF.out.1, HNF.out.2]; exact ⟨fun h => absurd h (by decide), fun h => absurd h HF.out⟩, HK.out⟩⟩
  · as_aux_lemma =>
    rw [if_pos hr, if_pos hr] at HCk
    have HF : Hid (rfAll S f (q + 1)) := hid (HX0.out.2 hr)
    clear hr
    (go_wp2_with fail; refine (HCk.out wr).mono ?_; rintro e_ w_ ⟨he_, hw_⟩; subst he_; have hs_ := hw_.symm; clear hw_; subst hs_)
    go_wp2
    exact ⟨⟨q + 1, by go_num, by omega, HF, HK⟩, by simp [intOf]; omega⟩
end
end Go.Proofs.Qxb6500887aGreat
