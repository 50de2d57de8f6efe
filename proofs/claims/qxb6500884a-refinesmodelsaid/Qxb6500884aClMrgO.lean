/- appendMerged onto a list of the call's own, growing. -/
import Derived.Test.Qxb6500884aClUni
import Derived.Test.Qxb6500884aFile
namespace Go.Proofs.Qxb6500884a
open Go.RowKit
set_option linter.unusedSimpArgs false
set_option linter.unusedVariables false

structure MrgP (base : Nat) (v : Value) (mg : List (Int × Int)) (w : World) (e : Ending) (w' : World) : Prop where
  out : ∃ v', e = .returned v' ∧ w'.ownsRow base 67 2 v' mg.length (mg.flatMap ivC) ∧ (v'.ownBlock = v.ownBlock ∨ ∃ g, v'.ownBlock = some g ∧ w.heap.size ≤ g)
  upd : UpdO v.ownBlock w w'
theorem UpdO.ofBelow {o : Option Nat} {w w' : World} (h : Below w.heap.size w w') : UpdO o w w' := ⟨h.os, h.tape, h.output, h.size, fun k hk _ => h.block k hk⟩
theorem UpdO.trans {o : Option Nat} {a b c : World} (h : UpdO o a b) (k : UpdO o b c) : UpdO o a c :=
  ⟨k.os.trans h.os, k.tape.trans h.tape, k.output.trans h.output, Nat.le_trans h.size k.size, fun i hi hne => (k.block i (Nat.lt_of_lt_of_le hi h.size) hne).trans (h.block i hi hne)⟩
theorem UpdO.ofUpd {g : Nat} {w w' : World} (h : Upd g w w') : UpdO (some g) w w' := ⟨h.os, h.tape, h.output, h.size, fun k hk hne => h.block k hk (fun e => hne (by rw [e]))⟩
theorem owns_set {w : World} {base g n c : Nat} {ms : List (Int × Int)} {a b y : Int} (ho : w.ownsRow base 67 2 (.slice (some ⟨g, 0, none⟩) n c) (ms ++ [(a, b)]).length ((ms ++ [(a, b)]).flatMap ivC)) :
    (w.setCell ⟨g, ms.length * 2 + 1, none⟩ (.int .i64 y)).ownsRow base 67 2 (.slice (some ⟨g, 0, none⟩) n c) (ms ++ [(a, y)]).length ((ms ++ [(a, y)]).flatMap ivC) := by
  refine ⟨by rw [flat_len], ?_⟩
  rcases ho.2 with ⟨h1, _⟩ | ⟨g', cap, cur, h1, h2, h3, h4, h5, h6, h7⟩
  · cases h1
  · have hl : (ms ++ [(a, b)]).length = ms.length + 1 := by simp
    have hl2 : (ms ++ [(a, y)]).length = ms.length + 1 := by simp
    rw [hl] at h1 h4 h7
    rw [hl2]
    cases h1
    have hb : Blk w g 67 cur.toList := by unfold Blk; simpa using h3
    have hb2 := hb.set (ms.length * 2 + 1) (.int .i64 y)
    have hsz : cur.toList.length = c * 2 := by simpa using h6
    have hp : Pre (cur.toList) (ms ++ [(a, b)]) cur.toList := ⟨rfl, fun i hi => by
      rw [hl] at hi
      have := congrArg (fun t => t[i]?) h7
      simp only [List.getElem?_take, if_pos hi] at this
      exact this, fun _ _ => rfl⟩
    have hp2 := hp.set (y := y) (by omega)
    refine .inr ⟨g, c, (cur.toList.set (ms.length * 2 + 1) (.int .i64 y)).toArray, rfl, h2, hb2, h4, h5, by simpa using hsz, ?_⟩
    apply List.ext_getElem?
    intro i
    rw [List.getElem?_take]
    split
    · rename_i hi
      exact hp2.pre i (by rw [hl2]; exact hi)
    · rename_i hi
      rw [List.getElem?_eq_none (by rw [flat_len, hl2]; omega)]
set_option maxRecDepth 100000 in
set_option maxHeartbeats 2000000 in
theorem mergedO_walk (base : Nat) (v : Value) (mg : List (Int × Int)) (x y : Int) (w : World) (ho : w.ownsRow base 67 2 v mg.length (mg.flatMap ivC)) (hbase : base ≤ w.heap.size) (hlen : mg.length ≤ 1000000) (hr : ∀ p ∈ mg, 0 ≤ p.2 ∧ p.2 ≤ 196607) :
    Calls Try.prog 38 #[v, .agg #[.int .i64 x, .int .i64 y]] w fun e w' => MrgP base v (mnext mg (x, y)) w e w' := by
  obtain ⟨i0, hi, hz0, hz1, hz2⟩ := info_ivz
  have HI := hid (And.intro hi (And.intro hz0 (And.intro hz1 hz2)))
  obtain ⟨q, hq⟩ : ∃ q, w.heap.size = q := ⟨_, rfl⟩
  have hb1' := Blk.new w [.int .i64 x, .int .i64 y] 67
  rw [hq] at hb1'
  obtain ⟨w1, hw1⟩ : ∃ w1, w.alloc (.cells #[.int .i64 x, .int .i64 y] 67) = w1 := ⟨_, rfl⟩
  have hw1' : w.alloc (.cells [Value.int .i64 x, .int .i64 y].toArray 67) = w1 := hw1
  rw [hw1'] at hb1'
  have HBq := hid hb1'
  have HBe1 : Hid (Below w.heap.size w w1) := hid (by rw [← hw1]; exact nbel w _)
  have HO1 := hid (ownsRow_bel ho HBe1.out)
  have q0 : ∀ nn, (w1.drewN nn).cell? ⟨q, 0, none⟩ = some (.int .i64 x) := fun nn => (HBq.out.drewN nn).cell 0
  obtain ⟨va, vc, rfl⟩ := owns_shape ho
  -- the append, whatever the list
  have app : ∀ (w2 : World), Below w.heap.size w w2 → w2.ownsRow base 67 2 (.slice va mg.length vc) mg.length (mg.flatMap ivC) → ∀ v8 w8, w8.ownsRow base 67 2 v8 (mg.length + 1) (mg.flatMap ivC ++ [.int .i64 x, .int .i64 y]) →
      Below base (w2.alloc (.cells #[.int .i64 x, .int .i64 y] 67)) w8 → (∀ k, k < (w2.alloc (.cells #[.int .i64 x, .int .i64 y] 67)).heap.size → (∀ g, (Value.slice va mg.length vc).ownBlock = some g → k ≠ g) → w8.heap[k]? = (w2.alloc (.cells #[.int .i64 x, .int .i64 y] 67)).heap[k]?) →
      (∀ g, v8.ownBlock = some g → (Value.slice va mg.length vc).ownBlock = some g ∨ g = (w2.alloc (.cells #[.int .i64 x, .int .i64 y] 67)).heap.size) → mnext mg (x, y) = mg ++ [(x, y)] → MrgP base (.slice va mg.length vc) (mnext mg (x, y)) w (.returned v8) w8 := by
    intro w2 hb2 ho2 v8 w8 h1 h2 h3 h4 h5
    have hb3 : Below w.heap.size w (w2.alloc (.cells #[.int .i64 x, .int .i64 y] 67)) := hb2.trans ((nbel w2 _).mono hb2.size)
    have hu : UpdO (Value.slice va mg.length vc).ownBlock (w2.alloc (.cells #[.int .i64 x, .int .i64 y] 67)) w8 := ⟨h2.os, h2.tape, h2.output, h2.size, fun k hk hne => h3 k hk (fun g hg e => hne (by rw [e]; exact hg))⟩
    refine ⟨⟨v8, rfl, by rw [h5, List.length_append, List.flatMap_append]; exact h1, ?_⟩, (UpdO.ofBelow hb3).trans hu⟩
    rcases h1.2 with ⟨_, h6⟩ | ⟨g', cap, cur, h6, _⟩
    · omega
    · rcases h4 g' (by rw [h6]; rfl) with h7 | h7
      · left
        rw [h7, h6]
        rfl
      · right
        refine ⟨g', by rw [h6]; rfl, ?_⟩
        have := hb3.size
        omega
  have App := hid app
  clear app
  rcases List.eq_nil_or_concat mg with h1 | ⟨ms, ab, h1⟩
  · as_aux_lemma =>
    subst h1
    have HO2 := hid (HO1.out)
    clear hi hz0 hz1 hz2 ho hb1' hw1'
    go_enter Try.func38, Try.ntmps38
    go_upto_region 2 with fail
    try simp only [hw1]
    clear hw1
    go_quiet (fail)
    have HBq2 := hid (HBq.out.drewN nq)
    have HBe2 : Hid (Below w.heap.size w (w1.drewN nq)) := hid (HBe1.out.trans ((Drew.below ⟨nq, rfl⟩ _ : Below w1.heap.size w1 (w1.drewN nq)).mono HBe1.out.size))
    have HO3 : Hid ((w1.drewN nq).ownsRow base 67 2 (.slice va 0 vc) 0 []) := hid (ownsRow_bel HO1.out (Drew.below ⟨nq, rfl⟩ _))
    generalize w1.drewN nq = w2 at HBq2 HBe2 HO3 ⊢
    clear q0 HBq HO1 HO2 HBe1
    have q0' : w2.cell? ⟨q, 0, none⟩ = some (.int .i64 x) := HBq2.out.cell 0
    have q1' : w2.cell? ⟨q, 1, none⟩ = some (.int .i64 y) := HBq2.out.cell 1
    have HO4 := hid (HO3.out.alloc (.cells #[.int .i64 x, .int .i64 y] 67))
    have hsz : base ≤ (w2.alloc (.cells #[.int .i64 x, .int .i64 y] 67)).heap.size := by have := HBe2.out.size; simp; omega
    go_wp2_with (at_builtin; refine wpList_append_row _ rfl (.tmp 39) (.tmp 41) 25 rfl base 67 i0 (.agg #[.int .i64 0, .int .i64 0]) 2 16 Try.underlying25 HI.out.1 HI.out.2.1 HI.out.2.2.1 HI.out.2.2.2 rfl (by decide) _ _ _ rfl HO4.out (some ⟨w2.heap.size, 0, none⟩) 1 1 [.int .i64 x, .int .i64 y] rfl rfl (fun h => by cases h) (newRow _ [.int .i64 x, .int .i64 y] _ _ rfl) (fun u hu => by simp at hu; rcases hu with rfl | rfl <;> rfl) (by decide) (by decide) hsz ?_; intro v8 w8 hown8 hb8 hk8 hg8; have HOw8 := hid hown8; have HB8 := hid hb8; have HK8 := hid hk8; have HG8 := hid hg8; clear hown8 hb8 hk8 hg8)
    go_ret
    exact App.out w2 HBe2.out HO3.out _ w8 HOw8.out HB8.out HK8.out HG8.out rfl
  · rw [List.concat_eq_append] at h1
    subst h1
    obtain ⟨a, b⟩ := ab
    have hab := hr (a, b) (by simp)
    obtain ⟨m, hm⟩ : ∃ m, ms.length = m := ⟨_, rfl⟩
    have hln : (ms ++ [(a, b)]).length = m + 1 := by simp [hm]
    obtain ⟨g, rfl⟩ : ∃ g, va = some ⟨g, 0, none⟩ := by
      rcases ho.2 with ⟨h2, h3⟩ | ⟨g', cap, cur, h2, _⟩
      · omega
      · cases h2; exact ⟨g', rfl⟩
    have HNx : Hid (mnext (ms ++ [(a, b)]) (x, y) = if x ≤ b + 1 then ms ++ [(a, if b < y then y else b)] else ms ++ [(a, b), (x, y)]) := hid (by rw [mnext_snoc]; rfl)
    have HO1c : Hid (w1.cell? ⟨g, m * 2 + 1, none⟩ = some (.int .i64 b) ∧ w1.frozen? ⟨g, m * 2 + 1, none⟩ = false) := hid (by
      rcases HO1.out.2 with ⟨h2, _⟩ | ⟨g', cap, cur, h2, h3, h4, h5, h6, h7, h8⟩
      · cases h2
      · cases h2
        have hbk : Blk w1 g 67 cur.toList := by unfold Blk; simpa using h4
        refine ⟨?_, hbk.frozen _⟩
        rw [hbk.cell]
        have := congrArg (fun t => t[m * 2 + 1]?) h8
        simp only [List.getElem?_take] at this
        rw [if_pos (by rw [hln]; omega), flat_get (p := (a, b)) (i := m) (by rw [← hm]; simp) (by omega)] at this
        exact this)
    have g1 : ∀ nn, (w1.drewN nn).cell? ⟨g, m * 2 + 1, none⟩ = some (.int .i64 b) := fun nn => HO1c.out.1
    have Hln := hid hln
    have Hm := hid hm
    rw [hln] at hlen
    obtain ⟨lm, hlm⟩ : ∃ lm, m + 1 = lm := ⟨_, rfl⟩
    have e1 : (lm : Int) - 1 = (m : Int) := by omega
    have d0 : decide ((0 : Int) < (lm : Int)) = true := decide_eq_true (by omega)
    have d0' : decide (0 < lm) = true := decide_eq_true (by omega)
    have i1 : (m : Int) < (lm : Int) := by omega
    have Hlm : Hid ((ms ++ [(a, b)]).length = lm) := hid (by omega)
    have hlm2 : lm ≤ 1000000 := by omega
    rw [Hlm.out] at HO1 App ⊢
    clear hi hz0 hz1 hz2 ho hb1' hw1' hm hln hlm hr
    by_cases hxb : x ≤ b + 1
    · have dx : decide (x ≤ b + 1) = true := decide_eq_true hxb
      have HM2 : Hid (mnext (ms ++ [(a, b)]) (x, y) = ms ++ [(a, if b < y then y else b)]) := hid (by rw [HNx.out, if_pos hxb])
      clear App
      go_enter Try.func38, Try.ntmps38
      go_upto_region 2 with fail
      try simp only [hw1]
      clear hw1
      go_quiet (fail)
      have HBq2 := hid (HBq.out.drewN nq)
      have HBe2 : Hid (Below w.heap.size w (w1.drewN nq)) := hid (HBe1.out.trans ((Drew.below ⟨nq, rfl⟩ _ : Below w1.heap.size w1 (w1.drewN nq)).mono HBe1.out.size))
      have HO3 : Hid ((w1.drewN nq).ownsRow base 67 2 (.slice (some ⟨g, 0, none⟩) lm vc) lm ((ms ++ [(a, b)]).flatMap ivC)) := hid (ownsRow_bel HO1.out (Drew.below ⟨nq, rfl⟩ _))
      have HC2 : Hid ((w1.drewN nq).cell? ⟨g, m * 2 + 1, none⟩ = some (.int .i64 b) ∧ (w1.drewN nq).frozen? ⟨g, m * 2 + 1, none⟩ = false) := hid HO1c.out
      generalize w1.drewN nq = w2 at HBq2 HBe2 HO3 HC2 ⊢
      clear q0 g1 HBq HO1 HO1c HBe1
      have q1 : ∀ nn, (w2.drewN nn).cell? ⟨q, 1, none⟩ = some (.int .i64 y) := fun nn => (HBq2.out.drewN nn).cell 1
      have g1 : ∀ nn, (w2.drewN nn).cell? ⟨g, m * 2 + 1, none⟩ = some (.int .i64 b) := fun nn => HC2.out.1
      go_upto_region 3 with fail
      by_cases hby : b < y
      · as_aux_lemma =>
        have dy : decide (b < y) = true := decide_eq_true hby
        have HM3 : Hid (mnext (ms ++ [(a, b)]) (x, y) = ms ++ [(a, y)]) := hid (by rw [HM2.out, if_pos hby])
        go_quiet (fail)
        have q1' : (w2.drewN nq).cell? ⟨q, 1, none⟩ = some (.int .i64 y) := q1 nq
        have g1' : (w2.drewN nq).cell? ⟨g, m * 2 + 1, none⟩ = some (.int .i64 b) := g1 nq
        have fg : (w2.drewN nq).frozen? ⟨g, m * 2 + 1, none⟩ = false := HC2.out.2
        have HBe3 : Hid (Below w.heap.size w (w2.drewN nq)) := hid (HBe2.out.trans ((Drew.below ⟨nq, rfl⟩ _ : Below w2.heap.size w2 (w2.drewN nq)).mono HBe2.out.size))
        have HO4 : Hid ((w2.drewN nq).ownsRow base 67 2 (.slice (some ⟨g, 0, none⟩) lm vc) lm ((ms ++ [(a, b)]).flatMap ivC)) := hid (ownsRow_bel HO3.out (Drew.below ⟨nq, rfl⟩ _))
        generalize w2.drewN nq = w3 at HBe3 HO4 q1' g1' fg ⊢
        clear q1 g1
        go_wp2
        go_ret
        refine ⟨⟨_, rfl, ?_, .inl rfl⟩, (UpdO.ofBelow HBe3.out).trans (UpdO.ofUpd ((Upd.refl g w3).setCell rfl _))⟩
        have h9 := owns_set (y := y) (by rw [Hlm.out]; exact HO4.out)
        rw [Hm.out] at h9
        rw [HM3.out]
        have e9 : (ms ++ [(a, y)]).length = (ms ++ [(a, b)]).length := by simp
        exact h9
      · as_aux_lemma =>
        have dy : decide (b < y) = false := decide_eq_false hby
        have HM3 : Hid (mnext (ms ++ [(a, b)]) (x, y) = ms ++ [(a, b)]) := hid (by rw [HM2.out, if_neg hby])
        go_quiet (fail)
        have HBe3 : Hid (Below w.heap.size w (w2.drewN nq)) := hid (HBe2.out.trans ((Drew.below ⟨nq, rfl⟩ _ : Below w2.heap.size w2 (w2.drewN nq)).mono HBe2.out.size))
        have HO4 : Hid ((w2.drewN nq).ownsRow base 67 2 (.slice (some ⟨g, 0, none⟩) lm vc) lm ((ms ++ [(a, b)]).flatMap ivC)) := hid (ownsRow_bel HO3.out (Drew.below ⟨nq, rfl⟩ _))
        generalize w2.drewN nq = w3 at HBe3 HO4 ⊢
        clear q1 g1
        go_wp2
        go_ret
        exact ⟨⟨_, rfl, by rw [HM3.out, Hlm.out]; exact HO4.out, .inl rfl⟩, UpdO.ofBelow HBe3.out⟩
    · as_aux_lemma =>
      have dx : decide (x ≤ b + 1) = false := decide_eq_false hxb
      have HM2 : Hid (mnext (ms ++ [(a, b)]) (x, y) = (ms ++ [(a, b)]) ++ [(x, y)]) := hid (by rw [HNx.out, if_neg hxb]; simp)
      go_enter Try.func38, Try.ntmps38
      go_upto_region 2 with fail
      try simp only [hw1]
      clear hw1
      go_quiet (fail)
      have HBq2 := hid (HBq.out.drewN nq)
      have HBe2 : Hid (Below w.heap.size w (w1.drewN nq)) := hid (HBe1.out.trans ((Drew.below ⟨nq, rfl⟩ _ : Below w1.heap.size w1 (w1.drewN nq)).mono HBe1.out.size))
      have HO3 : Hid ((w1.drewN nq).ownsRow base 67 2 (.slice (some ⟨g, 0, none⟩) lm vc) lm ((ms ++ [(a, b)]).flatMap ivC)) := hid (ownsRow_bel HO1.out (Drew.below ⟨nq, rfl⟩ _))
      generalize w1.drewN nq = w2 at HBq2 HBe2 HO3 ⊢
      clear q0 g1 HBq HO1 HO1c HBe1
      have q0' : w2.cell? ⟨q, 0, none⟩ = some (.int .i64 x) := HBq2.out.cell 0
      have q1' : w2.cell? ⟨q, 1, none⟩ = some (.int .i64 y) := HBq2.out.cell 1
      have HO4 := hid (HO3.out.alloc (.cells #[.int .i64 x, .int .i64 y] 67))
      have hsz : base ≤ (w2.alloc (.cells #[.int .i64 x, .int .i64 y] 67)).heap.size := by have := HBe2.out.size; simp; omega
      have hbb : (lm + 1) * 16 ≤ 140737488355328 := by omega
      go_wp2_with (at_builtin; refine wpList_append_row _ rfl (.tmp 39) (.tmp 41) 25 rfl base 67 i0 (.agg #[.int .i64 0, .int .i64 0]) 2 16 Try.underlying25 HI.out.1 HI.out.2.1 HI.out.2.2.1 HI.out.2.2.2 rfl (by decide) _ _ _ rfl HO4.out (some ⟨w2.heap.size, 0, none⟩) 1 1 [.int .i64 x, .int .i64 y] rfl rfl (fun h => by cases h) (newRow _ [.int .i64 x, .int .i64 y] _ _ rfl) (fun u hu => by simp at hu; rcases hu with rfl | rfl <;> rfl) hbb (by decide) hsz ?_; intro v8 w8 hown8 hb8 hk8 hg8; have HOw8 := hid hown8; have HB8 := hid hb8; have HK8 := hid hk8; have HG8 := hid hg8; clear hown8 hb8 hk8 hg8)
      go_ret
      exact App.out w2 HBe2.out HO3.out _ w8 HOw8.out HB8.out HK8.out HG8.out HM2.out
end Go.Proofs.Qxb6500884a
