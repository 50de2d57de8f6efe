/- Empty, All, Range, Single, Complement. -/
import Derived.Test.Qxb6500884aClFrom
import Derived.Test.Qxb6500884aClQ
namespace Go.Proofs.Qxb6500884a
open Go.RowKit
set_option linter.unusedSimpArgs false
set_option linter.unusedVariables false

/-- A class in normal form whose members f tells. -/
structure CP (f : Int → Bool) (w : World) (e : Ending) (w' : World) : Prop where
  out : ∃ a n c l, e = .returned (.agg #[.slice a n c]) ∧ IvRow w' a n c l ∧ Nrm l ∧ (∀ x, 0 ≤ x → x ≤ 196607 → memB l x = f x) ∧ Ty67 w' a n
  bel : Below w.heap.size w w'
theorem FromP.cp {raw : List (Int × Int)} {w w' : World} {e : Ending} (h : FromP raw w e w') : CP (memB raw) w e w' := by
  obtain ⟨a, n, c, l, h1, h2, h3, h4, _, _, h5⟩ := h.out
  exact ⟨⟨a, n, c, l, h1, h2, h3, h4, h5⟩, h.bel⟩
theorem ivrow_nil (w : World) : IvRow w none 0 0 [] := ⟨⟨rfl, Nat.le_refl _, ⟨by omega, by omega, fun _ => rfl⟩, fun i hi => absurd hi (by simp)⟩, fun q hq => by cases hq⟩
theorem nrm_nil : Nrm [] := ⟨fun p hp => (by cases hp), fun i p q hp => (by cases hp)⟩
theorem nrm_one {p : Int × Int} (h : 0 ≤ p.1 ∧ p.1 ≤ p.2 ∧ p.2 ≤ 196607) : Nrm [p] := (MInv.one h).nrm
theorem ivrow_one {w : World} {g : Nat} {x y : Int} (hb : Blk w g 67 [.int .i64 x, .int .i64 y]) (hx : Fit x) (hy : Fit y) : IvRow w (some ⟨g, 0, none⟩) 1 1 [(x, y)] := by
  refine ⟨⟨rfl, Nat.le_refl _, ⟨by omega, by unfold maxLen; omega, fun h => by cases h⟩, fun i hi => ⟨g, 0, rfl, hb.lt, fun j hj => ?_⟩⟩, fun p hp => by simp at hp; subst hp; exact ⟨hx, hy⟩⟩
  simp at hi
  subst hi
  rw [hb.cell]
  simp [ivC]
set_option maxRecDepth 100000 in
theorem empty_walk (w : World) : Calls Try.prog 42 #[] w fun e w' => CP (fun _ => false) w e w' := by
  obtain ⟨r, hr⟩ : ∃ r, w.heap.size = r := ⟨_, rfl⟩
  have hb := Blk.new w [.slice none 0 0] 30
  rw [hr] at hb
  have HB := hid hb
  have I0 : Hid ((Try.prog.info? 30).map (·.size) = some [Value.slice none 0 0].length) := hid info_reg
  clear hb
  go_enter Try.func42, Try.ntmps42
  go_wp2_with (refine wpList_store_blk rfl 30 _ _ rfl r rfl [.slice none 0 0] rfl HB.out rfl I0.out (fun v hv => by simp at hv; subst hv; rfl) ?_; intro w9 HB9 HU9)
  exact bodyPost_ret (results_blk Try.results42 rfl (show AggOf Try.prog 30 (List.length [_]) from AggOf.struct Try.underlying30 info_reg) HB9.out) rfl
    ⟨⟨none, 0, 0, [], rfl, ivrow_nil _, nrm_nil, fun _ _ _ => rfl, Ty67.nil _ _⟩, (nbel w _).trans (HU9.out.below (by omega) (by simp))⟩
set_option maxRecDepth 100000 in
theorem all_walk (w : World) : Calls Try.prog 43 #[] w fun e w' => CP (fun _ => true) w e w' := by
  obtain ⟨r, hr⟩ : ∃ r, w.heap.size = r := ⟨_, rfl⟩
  have hb := (Blk.new w [.slice none 0 0] 30).alloc (.cells #[.int .i64 0, .int .i64 196607] 67)
  rw [hr] at hb
  have hg := Blk.new (w.alloc (.cells #[.slice none 0 0] 30)) [.int .i64 0, .int .i64 196607] 67
  rw [show (w.alloc (.cells #[.slice none 0 0] 30)).heap.size = r + 1 by rw [← hr]; simp] at hg
  have HB := hid hb
  have HG := hid hg
  have I0 : Hid ((Try.prog.info? 30).map (·.size) = some [Value.slice (some ⟨r + 1, 0, none⟩) 1 1].length) := hid info_reg
  have HBe : Hid (Below w.heap.size w ((w.alloc (.cells #[.slice none 0 0] 30)).alloc (.cells #[.int .i64 0, .int .i64 196607] 67))) := hid ((nbel w _).alloc (by simp) _)
  clear hb hg
  go_enter Try.func43, Try.ntmps43
  go_wp2_with (refine wpList_store_blk rfl 30 _ _ rfl r rfl [.slice (some ⟨r + 1, 0, none⟩) 1 1] rfl HB.out rfl I0.out (fun v hv => by simp at hv; subst hv; rfl) ?_; intro w9 HB9 HU9)
  have hrow := ivrow_one (HG.out.upd HU9.out (by omega)) (by unfold Fit; omega) (by unfold Fit; omega)
  exact bodyPost_ret (results_blk Try.results43 rfl (show AggOf Try.prog 30 (List.length [_]) from AggOf.struct Try.underlying30 info_reg) HB9.out) rfl
    ⟨⟨_, _, _, _, rfl, hrow, nrm_one (by simp), fun x h0 h1 => (by simp [memB]; omega), Ty67.blk (HG.out.upd HU9.out (by omega))⟩, HBe.out.trans (HU9.out.below (by omega) HBe.out.size)⟩
set_option maxRecDepth 100000 in
set_option maxHeartbeats 1000000 in
theorem range_walk (lo hi : Int) (w : World) : Calls Try.prog 40 #[.int .i64 lo, .int .i64 hi] w fun e w' => CP (fun x => decide (lo ≤ x) && decide (x ≤ hi)) w e w' := by
  obtain ⟨r, hr⟩ : ∃ r, w.heap.size = r := ⟨_, rfl⟩
  have HCl := hid (fun w => clip_walk lo hi w)
  have HKp := hid (kept_rng [(lo, hi)])
  have HMm := hid (fun x h0 h1 => memB_kept [(lo, hi)] (x := x) h0 h1)
  have HKe : Hid (keptL [(lo, hi)] = if clipB (lo, hi) then [clipP (lo, hi)] else []) := hid (by unfold keptL; simp only [List.filter_cons, List.filter_nil]; split <;> rfl)
  have hb := Blk.new w [.slice none 0 0] 30
  rw [hr] at hb
  have HB := hid hb
  have HBe0 := hid (nbel w (.cells #[.slice none 0 0] 30))
  obtain ⟨⟨u, v⟩, huv⟩ : ∃ uv, clipP (lo, hi) = uv := ⟨_, rfl⟩
  obtain ⟨bb, hbb⟩ : ∃ bb, clipB (lo, hi) = bb := ⟨_, rfl⟩
  rw [huv, hbb] at HCl HKe
  have HCl2 : Hid (∀ w, Calls Try.prog 35 #[.agg #[.int .i64 lo, .int .i64 hi]] w fun e w' => e = .returned (.tuple #[.agg #[.int .i64 u, .int .i64 v], .bool bb]) ∧ Below w.heap.size w w') := HCl
  clear hb HCl huv hbb
  go_enter Try.func40, Try.ntmps40
  go_wp2_with fail
  refine (HCl2.out _).mono ?_
  rintro e w3 ⟨rfl, hb3⟩
  have HB3 := hid ((HB.out.below hb3).alloc (.cells #[.int .i64 u, .int .i64 v] 67))
  have HBe3 : Hid (Below w.heap.size w (w3.alloc (.cells #[.int .i64 u, .int .i64 v] 67))) := hid (by have h := HBe0.out.trans (hb3.mono HBe0.out.size); exact h.alloc h.size _)
  clear hb3 HB HBe0 HCl2
  cases bb with
  | false =>
    have I0 : Hid ((Try.prog.info? 30).map (·.size) = some [Value.slice none 0 0].length) := hid info_reg
    go_wp2_with (refine wpList_store_blk rfl 30 _ _ rfl r rfl [.slice none 0 0] rfl HB3.out rfl I0.out (fun v hv => by simp at hv; subst hv; rfl) ?_; intro w9 HB9 HU9)
    have hke : keptL [(lo, hi)] = [] := by rw [HKe.out]; rfl
    exact bodyPost_ret (results_blk Try.results40 rfl (show AggOf Try.prog 30 (List.length [_]) from AggOf.struct Try.underlying30 info_reg) HB9.out) rfl
      ⟨⟨none, 0, 0, [], rfl, ivrow_nil _, nrm_nil, fun x h0 h1 => (by rw [← hke, HMm.out x h0 h1, memB_one]), Ty67.nil _ _⟩, HBe3.out.trans (HU9.out.below (by omega) HBe3.out.size)⟩
  | true =>
    go_upto_region 4 with fail
    obtain ⟨w4, hw4⟩ : ∃ w4, w3.alloc (.cells #[.int .i64 u, .int .i64 v] 67) = w4 := ⟨_, rfl⟩
    have hbq := Blk.new w3 [.int .i64 u, .int .i64 v] 67
    have hw4' : w3.alloc (.cells [Value.int .i64 u, .int .i64 v].toArray 67) = w4 := hw4
    rw [hw4'] at hbq
    rw [hw4] at HB3 HBe3
    try simp only [hw4]
    obtain ⟨q, hq⟩ : ∃ q, w3.heap.size = q := ⟨_, rfl⟩
    rw [hq] at hbq
    have c1 : w4.cell? ⟨q, 0, none⟩ = some (.int .i64 u) := hbq.cell 0
    have c2 : w4.cell? ⟨q, 1, none⟩ = some (.int .i64 v) := hbq.cell 1
    obtain ⟨g, hg⟩ : ∃ g, w4.heap.size = g := ⟨_, rfl⟩
    have hgb := Blk.new w4 [.int .i64 u, .int .i64 v] 67
    rw [hg] at hgb
    have HG := hid hgb
    have HB5 := hid (HB3.out.alloc (.cells #[.int .i64 u, .int .i64 v] 67))
    have HBe5 : Hid (Below w.heap.size w (w4.alloc (.cells #[.int .i64 u, .int .i64 v] 67))) := hid (HBe3.out.alloc HBe3.out.size _)
    have hrg : r < g := by have := HB3.out.lt; omega
    have I0 : Hid ((Try.prog.info? 30).map (·.size) = some [Value.slice (some ⟨g, 0, none⟩) 1 1].length) := hid info_reg
    have hke : keptL [(lo, hi)] = [(u, v)] := by rw [HKe.out]; rfl
    have HKe2 := hid hke
    have hruv := HKp.out (u, v) (by rw [hke]; simp)
    clear hbq hw4 hw4' hgb hke
    go_wp2_with (refine wpList_store_blk rfl 30 _ _ rfl r rfl [.slice (some ⟨g, 0, none⟩) 1 1] rfl HB5.out rfl I0.out (fun v hv => by simp at hv; subst hv; rfl) ?_; intro w9 HB9 HU9)
    have hrow := ivrow_one (HG.out.upd HU9.out (by omega)) (show Fit u by unfold Fit; omega) (show Fit v by unfold Fit; omega)
    exact bodyPost_ret (results_blk Try.results40 rfl (show AggOf Try.prog 30 (List.length [_]) from AggOf.struct Try.underlying30 info_reg) HB9.out) rfl
      ⟨⟨_, _, _, _, rfl, hrow, nrm_one hruv, fun x h0 h1 => (by rw [← HKe2.out, HMm.out x h0 h1, memB_one]), Ty67.blk (HG.out.upd HU9.out (by omega))⟩, HBe5.out.trans (HU9.out.below (by omega) HBe5.out.size)⟩
end Go.Proofs.Qxb6500884a
