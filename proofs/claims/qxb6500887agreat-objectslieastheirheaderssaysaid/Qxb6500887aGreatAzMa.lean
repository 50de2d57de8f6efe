/- ObjectsLieAsTheirHeadersSay: an arena and own blocks beside it; small readers. -/
import Derived.Test.Qxb6500887aGreatAzLc
import Derived.Test.Qxb6500887aGreatArExt2
import Derived.Deep.DeepCutAuto
namespace Go.Proofs.Qxb6500887aGreat
open Go.RowKit
set_option linter.unusedSimpArgs false
set_option linter.unusedVariables false
/-- An arena inside a law, and blocks of the law's own beside it. -/
structure LB (w0 : World) (L : AL) (S : AS) (bl : List (Nat × TypeId × List Value)) (w : World) : Prop where
  ls : LS w0 L S w
  bk : ∀ x ∈ bl, Blk w x.1 x.2.1 x.2.2
  ty : ∀ x ∈ bl, x.2.1 ≠ 105 ∧ x.2.1 ≠ 216 ∧ x.2.1 ≠ 29
section
variable {w0 w w' : World} {L : AL} {S S' : AS} {bl : List (Nat × TypeId × List Value)} {p : Nat} {t : TypeId} {cs : List Value} {o : Ob}
theorem LB.start (h : LS w0 L S w) : LB w0 L S [] w := ⟨h, fun _ hx => (by cases hx), fun _ hx => (by cases hx)⟩
theorem LB.below (h : LB w0 L S bl w) (hb : Below w.heap.size w w') : LB w0 L S bl w' := ⟨h.ls.below hb, fun x hx => (h.bk x hx).below hb, h.ty⟩
theorem LB.step (h : LB w0 L S bl w) (hu : AU L w S' w') : LB w0 L S' bl w' := ⟨h.ls.step hu, fun x hx => (h.bk x hx).stepA h.ls.am hu.u (h.ty x hx).1 (h.ty x hx).2.1 (h.ty x hx).2.2, h.ty⟩
theorem LB.new (h : LB w0 L S bl w) (hp : w.heap.size = p) (h1 : t ≠ 105 ∧ t ≠ 216 ∧ t ≠ 29) : LB w0 L S (bl ++ [(p, t, cs)]) (w.alloc (.cells cs.toArray t)) := by
  refine ⟨h.ls.below (nbel _ _), fun x hx => ?_, fun x hx => ?_⟩
  · rcases List.mem_append.1 hx with hx | hx
    · exact (h.bk x hx).below (nbel _ _)
    · rw [List.mem_singleton.1 hx]
      have kk := Blk.new w cs t
      rw [hp] at kk
      exact kk
  · rcases List.mem_append.1 hx with hx | hx
    · exact h.ty x hx
    · rw [List.mem_singleton.1 hx]; exact h1
set_option maxRecDepth 100000 in
theorem obHeaderZ (ho : ObOk o) (w : World) : Calls Tryz.prog 36 #[.agg #[.pointer (some ⟨L.a, 0, none⟩), .int .i64 (o.k : Int), .int .u64 (o.raw : Int), .int .i64 (o.sz : Int), .int .i64 (o.rf : Int)]] w fun e w' => e = .returned (.agg #[.int .i64 (o.sz : Int), .int .i64 (o.rf : Int)]) ∧ Below w.heap.size w w' := by
  have h1 := ho.k
  have h2 := ho.rf
  clear ho
  obtain ⟨p, hp⟩ : ∃ p, w.heap.size = p := ⟨_, rfl⟩
  have HB : Hid (Below p w ((w.alloc (.cells #[.pointer (some ⟨L.a, 0, none⟩), .int .i64 (o.k : Int), .int .u64 (o.raw : Int), .int .i64 (o.sz : Int), .int .i64 (o.rf : Int)] 61)).alloc (.cells #[.int .i64 0, .int .i64 0] 59)) ∧ Blk ((w.alloc (.cells #[.pointer (some ⟨L.a, 0, none⟩), .int .i64 (o.k : Int), .int .u64 (o.raw : Int), .int .i64 (o.sz : Int), .int .i64 (o.rf : Int)] 61)).alloc (.cells #[.int .i64 0, .int .i64 0] 59)) (p + 1) 59 [.int .i64 0, .int .i64 0] ∧ Blk ((w.alloc (.cells #[.pointer (some ⟨L.a, 0, none⟩), .int .i64 (o.k : Int), .int .u64 (o.raw : Int), .int .i64 (o.sz : Int), .int .i64 (o.rf : Int)] 61)).alloc (.cells #[.int .i64 0, .int .i64 0] 59)) p 61 (obL L o)) := hid (by
    have k3 := Blk.new (w.alloc (.cells #[.pointer (some ⟨L.a, 0, none⟩), .int .i64 (o.k : Int), .int .u64 (o.raw : Int), .int .i64 (o.sz : Int), .int .i64 (o.rf : Int)] 61)) [.int .i64 0, .int .i64 0] 59
    rw [show (w.alloc (.cells #[.pointer (some ⟨L.a, 0, none⟩), .int .i64 (o.k : Int), .int .u64 (o.raw : Int), .int .i64 (o.sz : Int), .int .i64 (o.rf : Int)] 61)).heap.size = p + 1 by simp [hp]] at k3
    have k4 := Blk.new w (obL L o) 61
    rw [hp] at k4
    have b1 := nbel w (.cells #[.pointer (some ⟨L.a, 0, none⟩), .int .i64 (o.k : Int), .int .u64 (o.raw : Int), .int .i64 (o.sz : Int), .int .i64 (o.rf : Int)] 61)
    have b2 := nbel (w.alloc (.cells #[.pointer (some ⟨L.a, 0, none⟩), .int .i64 (o.k : Int), .int .u64 (o.raw : Int), .int .i64 (o.sz : Int), .int .i64 (o.rf : Int)] 61)) (.cells #[.int .i64 0, .int .i64 0] 59)
    exact ⟨hp ▸ b1.trans (b2.mono b1.size), k3, Blk.below k4 b2⟩)
  have I0 := hid (show (Tryz.prog.info? 59).map (·.size) = some 2 by kernel_rfl)
  have G0 := hid (show AggOf Tryz.prog 59 2 from AggOf.struct Tryz.underlying59 (by kernel_rfl))
  go_enter Tryz.func36, Tryz.ntmps36
  go_upto_region 1 with fail
  (try simp only [hp])
  generalize hw1 : (w.alloc _).alloc _ = w1 at HB ⊢
  clear hw1
  have p3 : w1.cell? ⟨p, 3, none⟩ = some (.int .i64 (o.sz : Int)) := HB.out.2.2.cell 3
  have p4 : w1.cell? ⟨p, 4, none⟩ = some (.int .i64 (o.rf : Int)) := HB.out.2.2.cell 4
  go_wp2_with (refine wpList_store_blk rfl 59 _ _ rfl (p + 1) rfl [.int .i64 (o.sz : Int), .int .i64 (o.rf : Int)] rfl HB.out.2.1 rfl I0.out (by intro u hu; simp only [List.mem_cons, List.not_mem_nil, or_false] at hu; rcases hu with rfl | rfl <;> rfl) ?_; intro w9 HB9 HU9)
  refine bodyPost_ret (results_blk (cs := [.int .i64 (o.sz : Int), .int .i64 (o.rf : Int)]) Tryz.results36 rfl G0.out HB9.out) rfl ?_
  exact ⟨rfl, by rw [hp]; exact HB.out.1.trans (HU9.out.below (by omega) (by rw [← hp]; exact HB.out.1.size))⟩
set_option maxRecDepth 100000 in
theorem obDataWordsZ (ho : ObOk o) (w : World) : Calls Tryz.prog 40 #[.agg #[.pointer (some ⟨L.a, 0, none⟩), .int .i64 (o.k : Int), .int .u64 (o.raw : Int), .int .i64 (o.sz : Int), .int .i64 (o.rf : Int)]] w fun e w' => e = .returned (.int .i64 ((o.sz - o.rf : Nat) : Int)) ∧ Below w.heap.size w w' := by
  have h1 := ho.k
  have h2 := ho.rf
  have HD := hid (fun wz => hdDataZ o.sz o.rf ho.s2 ho.rf wz)
  clear ho
  go_enter Tryz.func40, Tryz.ntmps40
  go_wp2_with fail
  refine (HD.out _).mono ?_
  rintro e w1 ⟨rfl, hb⟩
  clear HD
  go_wp2
  go_ret
  exact ⟨rfl, (nbel w _).trans (hb.mono (nbel w _).size)⟩
theorem fa_in {i : Nat} (hw : S.W o.k = o.raw) (hi : i < o.rf) : (fwV S o (i : Int)).1 = ((o.k + 1 + i : Nat) : Int) ∧ (fwV S o (i : Int)).2 = 0 := by
  unfold fwV
  rw [if_pos hw, if_pos ⟨by omega, by omega⟩]
  exact ⟨by simp, rfl⟩
theorem da_in {i : Nat} (hw : S.W o.k = o.raw) (hi : i < o.sz - o.rf) : (dwV S o (i : Int)).1 = ((o.k + 1 + o.rf + i : Nat) : Int) ∧ (dwV S o (i : Int)).2 = 0 := by
  unfold dwV
  rw [if_pos hw, if_pos ⟨by omega, by omega⟩]
  exact ⟨by simp, rfl⟩
theorem obFieldAddrI (h : AM L S w) (ho : ObOk o) (hw : S.W o.k = o.raw) {i : Nat} (hi : i < o.rf) : Calls Tryz.prog 45 #[.agg #[.pointer (some ⟨L.a, 0, none⟩), .int .i64 (o.k : Int), .int .u64 (o.raw : Int), .int .i64 (o.sz : Int), .int .i64 (o.rf : Int)], .int .i64 (i : Int)] w fun e w' => e = .returned (.tuple #[.int .u64 ((65536 + o.k + 1 + i : Nat) : Int), .int .u8 0]) ∧ Below w.heap.size w w' := by
  have := obFieldAddrZ h ho (i : Int)
  rw [(fa_in hw hi).2, (fa_in hw hi).1, if_pos rfl, show (65536 : Int) + ((o.k + 1 + i : Nat) : Int) = ((65536 + o.k + 1 + i : Nat) : Int) by omega] at this
  exact this
theorem obDataAddrI (h : AM L S w) (ho : ObOk o) (hw : S.W o.k = o.raw) {i : Nat} (hi : i < o.sz - o.rf) : Calls Tryz.prog 46 #[.agg #[.pointer (some ⟨L.a, 0, none⟩), .int .i64 (o.k : Int), .int .u64 (o.raw : Int), .int .i64 (o.sz : Int), .int .i64 (o.rf : Int)], .int .i64 (i : Int)] w fun e w' => e = .returned (.tuple #[.int .u64 ((65536 + o.k + 1 + o.rf + i : Nat) : Int), .int .u8 0]) ∧ Below w.heap.size w w' := by
  have := obDataAddrZ h ho (i : Int)
  rw [(da_in hw hi).2, (da_in hw hi).1, if_pos rfl, show (65536 : Int) + ((o.k + 1 + o.rf + i : Nat) : Int) = ((65536 + o.k + 1 + o.rf + i : Nat) : Int) by omega] at this
  exact this
theorem obSetRefI (h : AM L S w) (ho : ObOk o) (hw : S.W o.k = o.raw) {i : Nat} (hi : i < o.rf) : Calls Tryz.prog 47 #[.agg #[.pointer (some ⟨L.a, 0, none⟩), .int .i64 (o.k : Int), .int .u64 (o.raw : Int), .int .i64 (o.sz : Int), .int .i64 (o.rf : Int)], .int .i64 (i : Int), .int .u64 (65536 + (o.k : Int))] w fun e w' => e = .returned (.int .u8 0) ∧ Hid (AU L w (S.tch.putW (o.k + 1 + i) (65536 + o.k)) w') := by
  have h1 := ho.k
  have := obSetRefZ h ho (i : Int) (65536 + (o.k : Int)) ⟨by omega, by omega⟩
  have e : stRfA S o (i : Int) (65536 + (o.k : Int)) = (0, S.tch.putW (o.k + 1 + i) (65536 + o.k)) := by
    unfold stRfA
    rw [if_pos (fa_in hw hi).2, if_pos (.inr (wantO_even' (g := o.k / 2) (by have := ho.ev; omega) (by omega))), show (65536 + (o.k : Int)).toNat = 65536 + o.k by omega, show (i : Int).toNat = i by omega]
  rw [e] at this
  exact this
theorem obSetDataI (h : AM L S w) (ho : ObOk o) (hw : S.W o.k = o.raw) {i : Nat} (hi : i < o.sz - o.rf) (x : Int) (hx : U64 x) : Calls Tryz.prog 48 #[.agg #[.pointer (some ⟨L.a, 0, none⟩), .int .i64 (o.k : Int), .int .u64 (o.raw : Int), .int .i64 (o.sz : Int), .int .i64 (o.rf : Int)], .int .i64 (i : Int), .int .u64 x] w fun e w' => e = .returned (.int .u8 0) ∧ Hid (AU L w (S.tch.putW (o.k + 1 + o.rf + i) x.toNat) w') := by
  have := obSetDataZ h ho (i : Int) x hx
  have e : stDtA S o (i : Int) x = (0, S.tch.putW (o.k + 1 + o.rf + i) x.toNat) := by
    unfold stDtA
    rw [if_pos (da_in hw hi).2, show (i : Int).toNat = i by omega]
  rw [e] at this
  exact this
/-- A bare load of a word that was just written. -/
theorem loadPut {i x : Nat} (h : AM L (S.tch.putW i x) w) (hi : i < 32768) : Calls Tryz.prog 23 #[.pointer (some ⟨L.a, 0, none⟩), .int .u64 ((65536 + i : Nat) : Int)] w fun e w' => e = .returned (.tuple #[.int .u64 ((x : Nat) : Int), .int .u8 0]) ∧ w' = w := by
  have hh : InH ((65536 + i : Nat) : Int) := by unfold InH; omega
  have := loadZ h ((65536 + i : Nat) : Int)
  rw [if_pos hh, wantW_in' hh, show wIx ((65536 + i : Nat) : Int) = i by unfold wIx; omega, show (S.tch.putW i x).W i = x by simp [AS.putW, fup]] at this
  exact this
end
end Go.Proofs.Qxb6500887aGreat
