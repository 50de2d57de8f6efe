/- Of, UnionAll. -/
import Derived.Test.Qxb6500884aClCmp
import Derived.Test.Qxb6500884aPut
namespace Go.Proofs.Qxb6500884a
open Go.RowKit
set_option linter.unusedSimpArgs false
set_option linter.unusedVariables false

theorem InRow.len {w : World} {a : Option Addr} {n c : Nat} {l : List Int} (h : InRow w a n c l) : l.length = n := h.1.1
theorem InRow.get {w : World} {a : Option Addr} {n c : Nat} {l : List Int} (h : InRow w a n c l) {k : Nat} (hk : k < n) :
    ∃ x, l[k]? = some x ∧ Fit x ∧ ∃ b off, a = some ⟨b, off, none⟩ ∧ b < w.heap.size ∧ w.cell? ⟨b, off + k, none⟩ = some (.int .i64 x) := by
  obtain ⟨x, hx, b, off, ha, hb, hc⟩ := h.1.cell hk
  exact ⟨x, hx, h.2 x (List.mem_of_getElem? hx), b, off, ha, hb, by simpa [inC] using hc 0 (by omega)⟩
/-- Each code by itself. -/
def dupL (l : List Int) : List (Int × Int) := l.map fun c => (c, c)
theorem dupL_take {l : List Int} {k : Nat} {x : Int} (h : l[k]? = some x) : dupL (l.take (k + 1)) = dupL (l.take k) ++ [(x, x)] := by
  unfold dupL
  rw [List.take_add_one, h]
  simp
theorem dupL_len (l : List Int) : (dupL l).length = l.length := by unfold dupL; simp
theorem make_ivn (n : Nat) (hn : n ≤ 100000000000) (w : World) : (Instr.makeSlice 25 (.int .i64 (n : Int)) (.int .i64 (n : Int))).run Try.prog w = .ok (.slice (some ⟨w.heap.size, 0, none⟩) n n) (w.alloc (.cells (madeCells #[.int .i64 0, .int .i64 0] (n * 2)) 67)) := by
  obtain ⟨i0, hi, hz0, hz1, hz2⟩ := info_ivz
  have := run_make (P := Try.prog) w 25 67 i0 _ Try.underlying25 hi hz0 .i64 .i64 (n : Int) (n : Int) (by omega) (by omega) (by rw [hz2]; omega) (by omega)
  rw [hz1, show (Value.agg #[Value.int .i64 0, .int .i64 0]).cells = #[.int .i64 0, .int .i64 0] from rfl] at this
  simpa using this
theorem Pre.row {w : World} {g n c : Nat} {cs Z : List Value} {mg : List (Int × Int)} (hb : Blk w g 67 cs) (hp : Pre cs mg Z) (hn : mg.length = n) (hc : n ≤ c) (hm : c ≤ 100000000000) (hf : ∀ p ∈ mg, Fit p.1 ∧ Fit p.2) : IvRow w (some ⟨g, 0, none⟩) n c mg := by
  refine ⟨⟨hn, by omega, ⟨by omega, by unfold maxLen; omega, fun e => by cases e⟩, fun i hi => ⟨g, 0, rfl, hb.lt, fun j hj => ?_⟩⟩, hf⟩
  rw [hb.cell, Nat.zero_add, hp.pre (i * 2 + j) (by omega), flat_get (List.getElem?_eq_getElem hi) hj]
/-- The list of codes under way. -/
structure Ofw (w0 : World) (g r : Nat) (Z : List Value) (mg : List (Int × Int)) (w : World) : Prop where
  bel : Below w0.heap.size w0 w
  blk : ∃ cs, Blk w g 67 cs ∧ Pre cs mg Z
  res : Blk w r 30 [.slice none 0 0]
theorem Ofw.step {w0 w w' : World} {g r : Nat} {Z cs ds : List Value} {mg : List (Int × Int)} (h : Ofw w0 g r Z mg w) (hg : w0.heap.size ≤ g) (hr : r ≠ g) {x y : Int} (hc : Blk w g 67 cs) (hp : Pre cs mg Z) (hd : Blk w' g 67 (splice cs (mg.length * 2) [.int .i64 x, .int .i64 y])) (hu : Upd g w w') (hl : mg.length * 2 + 2 ≤ Z.length) : Ofw w0 g r Z (mg ++ [(x, y)]) w' :=
  ⟨h.bel.trans (hu.below hg h.bel.size), ⟨_, hd, hp.app hl⟩, h.res.upd hu hr⟩
theorem info_iv1 : (Try.prog.info? 67).map (·.size) = some 2 := by kernel_rfl
set_option maxRecDepth 100000 in
set_option maxHeartbeats 2000000 in
theorem of_walk (a : Option Addr) (n c : Nat) (l : List Int) (w : World) (hr : InRow w a n c l) (hn : n ≤ 10000000000) :
    Calls Try.prog 44 #[.slice a n c] w fun e w' => CP (memB (dupL l)) w e w' := by
  have HR := hid hr
  have hl := hr.len
  obtain ⟨r, hrr⟩ : ∃ r, w.heap.size = r := ⟨_, rfl⟩
  obtain ⟨g, hg⟩ : ∃ g, r + 1 = g := ⟨_, rfl⟩
  have hmk0 := make_ivn n (by omega)
  obtain ⟨Z, hZ⟩ : ∃ Z : List Value, madeCells #[Value.int .i64 0, .int .i64 0] (n * 2) = Z.toArray := ⟨(madeCells #[Value.int .i64 0, .int .i64 0] (n * 2)).toList, by simp⟩
  have hZl : Z.length = n * 2 := by have h := size_madeCells #[Value.int .i64 0, .int .i64 0] (n * 2); rw [hZ] at h; simpa using h
  rw [hZ] at hmk0
  have HO0 : Hid (Ofw w g r Z [] ((w.alloc (.cells #[Value.slice none 0 0] 30)).alloc (.cells Z.toArray 67))) := hid (by
    have b0 := (Blk.new w [Value.slice none 0 0] 30).alloc (.cells Z.toArray 67)
    have b1 := Blk.new (w.alloc (.cells #[Value.slice none 0 0] 30)) Z 67
    rw [hrr] at b0
    rw [show (w.alloc (.cells #[Value.slice none 0 0] 30)).heap.size = g by rw [← hg, ← hrr]; simp] at b1
    exact ⟨(nbel w _).alloc (by simp) _, ⟨Z, b1, ⟨rfl, fun i hi => by simp at hi, fun _ _ => rfl⟩⟩, b0⟩)
  have hsz : (w.alloc (.cells #[Value.slice none 0 0] 30)).heap.size = g := by rw [← hg, ← hrr]; simp
  have hgw : w.heap.size ≤ g := by omega
  have hrg : r ≠ g := by omega
  have I1 : Hid ((Try.prog.info? 67).map (·.size) = some 2) := hid info_iv1
  clear hZ hr hg
  go_enter Try.func44, Try.ntmps44
  go_upto_region 2 with fail
  generalize (w.alloc (.cells #[Value.slice none 0 0] 30)).alloc (.cells Z.toArray 67) = w1 at HO0 ⊢
  clear hmk0 hsz
  go_wp2_with fail
  go_loopw [11] (fun i wr => ∃ (k : Nat), k ≤ n ∧ i = .int .i64 k ∧ Hid (Ofw w g r Z (dupL (l.take k)) wr)) (fun i _ => n - (intOf i).toNat)
  case atStart => exact ⟨0, Nat.zero_le _, rfl, by simpa [dupL] using HO0⟩
  case round =>
    clear HO0
    obtain ⟨k, hk, rfl, HO⟩ := hrel
    by_cases hlt : k < n
    · as_aux_lemma =>
      obtain ⟨x, hx, fx, b, off, rfl, hb, e1⟩ := InRow.get (HR.out.below HO.out.bel) hlt
      have HTk := hid (dupL_take hx)
      have dk : decide ((k : Int) < (n : Int)) = true := decide_eq_true (by omega)
      have i1 : (k : Int) < (n : Int) := by omega
      obtain ⟨cs, hcs, hpre⟩ := HO.out.blk
      have HCs := hid hcs
      have HPr := hid hpre
      have hml : (dupL (l.take k)).length = k := by rw [dupL_len, List.length_take]; omega
      have Hml := hid hml
      have hfit : k * 2 + 2 ≤ cs.length := by rw [hpre.len]; omega
      clear hx hcs hpre hml
      go_wp2_with (refine wpList_store_at rfl 67 _ _ rfl g (k * 2) (by simp [Act.eval, Act.put]; done) [.int .i64 x, .int .i64 x] rfl HCs.out hfit I1.out (fun v hv => by simp at hv; subst hv; rfl) ?_; intro w9 HB9 HU9)
      have HO9 : Hid (Ofw w g r Z (dupL (l.take (k + 1))) w9) := hid (by
        rw [HTk.out]
        exact HO.out.step (cs := cs) (ds := cs) hgw hrg HCs.out HPr.out (by rw [Hml.out]; exact HB9.out) HU9.out (by rw [Hml.out, ← HPr.out.len]; exact hfit))
      exact ⟨⟨k + 1, by omega, by go_num, HO9⟩, by simp [intOf]; omega⟩
    · as_aux_lemma =>
      have dk : decide ((k : Int) < (n : Int)) = false := decide_eq_false (by omega)
      have HO2 : Hid (Ofw w g r Z (dupL l) wr) := hid (by have h := HO.out; rw [List.take_of_length_le (by omega)] at h; exact h)
      obtain ⟨cs, hcs, hpre⟩ := HO2.out.blk
      have HRow := hid (Pre.row (n := n) (c := n) hcs hpre (by rw [dupL_len]; exact hl) (Nat.le_refl _) (by omega) (fun p hp => by
        unfold dupL at hp
        obtain ⟨x, hx, rfl⟩ := List.mem_map.1 hp
        exact ⟨HR.out.2 x hx, HR.out.2 x hx⟩))
      have HFr := hid (from_walk (some ⟨g, 0, none⟩) n n (dupL l) wr HRow.out (by omega))
      have HBe0 := hid HO2.out.bel
      have HRs := hid HO2.out.res
      clear hcs hpre HO HO2
      go_wp2_with fail
      refine (HFr.out).mono ?_
      rintro e w5 hf
      obtain ⟨⟨a5, n5, c5, l5, rfl, hrow5, hN5, hm5, hty5⟩, hb5⟩ := hf.cp
      have HRow5 := hid hrow5
      have HTy5 := hid hty5
      have Hm5 := hid hm5
      have HRs5 := hid (HRs.out.below hb5)
      have HBe5 := hid (HBe0.out.trans (hb5.mono HBe0.out.size))
      have I0 : Hid ((Try.prog.info? 30).map (·.size) = some [Value.slice a5 n5 c5].length) := hid info_reg
      clear hrow5 hty5 hb5 hm5 HFr HRs HBe0
      go_wp2_with (refine wpList_store_blk rfl 30 _ _ rfl r rfl [.slice a5 n5 c5] rfl HRs5.out rfl I0.out (fun v hv => by simp at hv; subst hv; rfl) ?_; intro w9 HB9 HU9)
      exact bodyPost_ret (results_blk Try.results44 rfl (show AggOf Try.prog 30 (List.length [_]) from AggOf.struct Try.underlying30 info_reg) HB9.out) rfl
        ⟨⟨_, _, _, _, rfl, HRow5.out.upd HU9.out (HTy5.out.ne HRs5.out (by decide)), hN5, Hm5.out, HTy5.out.upd HRs5.out (by decide) HU9.out⟩, HBe5.out.trans (HU9.out.below (by omega) HBe5.out.size)⟩
end Go.Proofs.Qxb6500884a
