/- What the laws read: Log. -/
import Derived.Test.Qxb6500888aBaOp
import Derived.Test.Qxb6500888aRowL
namespace Go.Proofs.Qxb6500888a
open Go.RowKit
set_option linter.unusedSimpArgs false
set_option linter.unusedVariables false

theorem infoE : ∃ i, Try.prog.info? 59 = some i ∧ i.zero = some (.agg #[.int .u64 0, .int .u64 0]) ∧ i.size = 2 ∧ i.bytes = 16 := by
  have h : (Try.prog.info? 59).map (fun i => (i.zero, i.size, i.bytes)) = some (some (.agg #[.int .u64 0, .int .u64 0]), 2, 16) := by kernel_rfl
  obtain ⟨i, hi, he⟩ := Option.map_eq_some_iff.1 h
  injection he with h1 h2
  injection h2 with h3 h4
  exact ⟨i, hi, h1, h3, h4⟩
theorem make_E (n : Nat) (hn : n ≤ 1000000000) (w : World) : (Instr.makeSlice 56 (.int .i64 0) (.int .i64 (n : Int))).run Try.prog w = .ok (.slice (some ⟨w.heap.size, 0, none⟩) 0 n) (w.alloc (.cells (madeCells #[.int .u64 0, .int .u64 0] (n * 2)) 59)) := by
  obtain ⟨i0, hi, hz0, hz1, hz2⟩ := infoE
  have := run_make (P := Try.prog) w 56 59 i0 _ Try.underlying56 hi hz0 .i64 .i64 0 (n : Int) (by omega) (by omega) (by rw [hz2]; omega) (by omega)
  rw [hz1, show (Value.agg #[Value.int .u64 0, .int .u64 0]).cells = #[.int .u64 0, .int .u64 0] from rfl] at this
  simpa using this
/-- The list of a log under way. -/
structure LgS (w : World) (eB : Nat) (xs : List (Nat × Nat)) (v : Value) (wr : World) : Prop where
  row : OwR rtE w.heap.size wr v xs
  box : Blk wr eB 56 [v]
  bel : Below w.heap.size w wr
  lo : w.heap.size ≤ eB
theorem LgS.below {w wr w' : World} {eB : Nat} {xs : List (Nat × Nat)} {v : Value} (h : LgS w eB xs v wr) (hb : Below wr.heap.size wr w') : LgS w eB xs v w' := ⟨h.row.below hb, h.box.below hb, h.bel.trans (hb.mono h.bel.size), h.lo⟩
set_option maxRecDepth 1000000 in
set_option maxHeartbeats 2000000 in
theorem log1_walk {w wr : World} {eB : Nat} {xs : List (Nat × Nat)} {v : Value} (h : LgS w eB xs v wr) (hl : xs.length ≤ 1000000000) (f o : Nat) :
    Calls Try.prog 72 #[.agg #[.int .u64 (f : Int), .int .u64 (o : Int)], .pointer (some ⟨eB, 0, none⟩)] wr fun e w' => e = .returned (.tuple #[]) ∧ ∃ v', LgS w eB (xs ++ [(f, o)]) v' w' := by
  obtain ⟨g, hg⟩ : ∃ g, wr.heap.size = g := ⟨_, rfl⟩
  obtain ⟨ax, q, hv⟩ := h.row.shape
  obtain ⟨n, hn⟩ : ∃ n, xs.length = n := ⟨_, rfl⟩
  rw [hn] at hv hl
  subst hv
  have HH := hid h
  have Hn := hid hn
  have Hl := hid hl
  clear h hn hl
  go_enter Try.func72, Try.ntmps72
  go_upto_region 1 with fail
  obtain ⟨wa, hwa⟩ : ∃ wa, wr.alloc (.cells #[.int .u64 (f : Int), .int .u64 (o : Int)] 59) = wa := ⟨_, rfl⟩
  have HHa : Hid (LgS w eB xs (.slice ax n q) wa) := hid (by rw [← hwa]; exact HH.out.below (nbel wr _))
  have HNa : Hid (Blk wa g 59 [.int .u64 (f : Int), .int .u64 (o : Int)]) := hid (by rw [← hwa, ← hg]; exact Blk.new wr [.int .u64 (f : Int), .int .u64 (o : Int)] _)
  (try simp only [hwa])
  clear hwa hg HH
  have ca : wa.cell? ⟨g, 0, none⟩ = some (.int .u64 (f : Int)) := HNa.out.cell 0
  have cb : wa.cell? ⟨g, 1, none⟩ = some (.int .u64 (o : Int)) := HNa.out.cell 1
  have ce : wa.cell? ⟨eB, 0, none⟩ = some (.slice ax n q) := HHa.out.box.cell 0
  go_wp2_with (at_builtin; refine stopHere ?_)
  intro _
  obtain ⟨k, hk⟩ : ∃ k, wa.heap.size = k := ⟨_, rfl⟩
  obtain ⟨wf, hwf⟩ : ∃ wf, wa.alloc (.cells #[.int .u64 (f : Int), .int .u64 (o : Int)] 59) = wf := ⟨_, rfl⟩
  have HHf : Hid (LgS w eB xs (.slice ax n q) wf) := hid (by rw [← hwf]; exact HHa.out.below (nbel wa _))
  have HNw : Hid (∀ ad, some (⟨k, 0, none⟩ : Addr) = some ad → ∀ j u, ([(f, o)].flatMap rtE.f)[j]? = some u → wf.cell? (ad.add j) = some u) := hid (by rw [← hwf]; exact newX rtE wa (f, o) _ hk.symm)
  (try simp only [hwf, hk])
  clear hwf hk ca cb ce HNa HHa
  refine wpList_app_l okE rfl _ _ HHf.out.row rfl [(f, o)] rfl (some ⟨k, 0, none⟩) 1 1 rfl rfl (fun h => by cases h) HNw.out (by have := Hl.out; have := Hn.out; show (xs.length + 1) * 16 ≤ _; omega) HHf.out.bel.size ?_
  intro v8 w8 hr8 hk8 hg8
  have hne := HHf.out.row.ne HHf.out.box (by decide)
  have hb8 := hk8.out.keep HHf.out.box hne
  have ce8 : w8.cell? ⟨eB, 0, none⟩ = some (.slice ax n q) := hb8.cell 0
  have fe8 : w8.frozen? ⟨eB, 0, none⟩ = false := hb8.frozen 0
  obtain ⟨a8, k8, h8⟩ := hr8.out.shape
  rw [List.length_append, List.length_singleton, Hn.out] at h8
  subst h8
  have HR : Hid (∃ v', LgS w eB (xs ++ [(f, o)]) v' (w8.setCell ⟨eB, 0, none⟩ (.slice a8 (n + 1) k8))) := hid (by
    have hu := upd1 eB 0 (.slice a8 (n + 1) k8) w8
    have hne8 := hr8.out.ne hb8 (by decide)
    have hbel := HHf.out.bel.trans (hk8.out.below HHf.out.row.hi HHf.out.bel.size)
    exact ⟨_, hr8.out.upd hu hne8, hb8.set 0 _, hbel.trans (hu.below HHf.out.lo hbel.size), HHf.out.lo⟩)
  clear HHf HNw hr8 hk8 hg8 hne hb8
  go_wp2
  exact bodyPost_end (v := .tuple #[]) (by simp [results, Try.results72, go_sem]) rfl ⟨rfl, HR.out⟩
theorem ent_log1 (args : Array Value) (w : World) : (callFunc 72 args).run Try.prog w = .ok (.enter 72 args) w := by kernel_rfl
section
variable {w w' : World} {ρ ρ' : Rl} {L : GL} {T : BL} {G : GS} {B : BS}
theorem each_log {eB : Nat} {v : Value} {wr : World} (hB : BM w ρ L T G B) (h : LgS w eB [] v wr) {m : Nat} (hm : m < 4) (hn : (B.logs m).length ≤ 1000000000) :
    Calls Try.prog 71 #[.pointer (some ⟨T.bB, 3 + m * 69, none⟩), .func (.func 72) #[] #[.pointer (some ⟨eB, 0, none⟩)]] wr fun e w' => e = .returned (.tuple #[]) ∧ ∃ v', LgS w eB (B.logs m) v' w' := by
  have hlc := ((hB.below h.bel).lcells hm).1
  have := each_walk (ids := T.sg m) (lg := B.logs m) 72 #[.pointer (some ⟨eB, 0, none⟩)] T.bB (3 + m * 69) wr (fun k wk => ∃ v', LgS w eB ((B.logs m).take k) v' wk) hlc ⟨v, h⟩ (fun k w1 h1 => by
      obtain ⟨v2, h2⟩ := h1
      exact (hB.below h2.bel).sg m hm (by omega)) (fun k w1 w2 h1 hb => by
      obtain ⟨v2, h2⟩ := h1
      exact ⟨v2, h2.below hb⟩) (fun k p w1 hp h1 => by
      obtain ⟨v2, h2⟩ := h1
      have e1 : (#[.agg #[.int .u64 (p.1 : Int), .int .u64 (p.2 : Int)]] ++ #[.pointer (some ⟨eB, 0, none⟩)] : Array Value) = #[.agg #[.int .u64 (p.1 : Int), .int .u64 (p.2 : Int)], .pointer (some ⟨eB, 0, none⟩)] := rfl
      rw [e1]
      refine (log1_walk h2 (by rw [List.length_take]; omega) p.1 p.2).mono ?_
      rintro e w2 ⟨rfl, v3, h3⟩
      refine ⟨rfl, v3, ?_⟩
      have e2 : (B.logs m).take (k + 1) = (B.logs m).take k ++ [p] := by rw [List.take_add_one, hp]; rfl
      rw [e2]
      exact h3) (sg_nodup hB.nd hm) ent_log1
  refine this.mono ?_
  rintro e w2 ⟨he, v2, h2⟩
  rw [List.take_length] at h2
  exact ⟨he, v2, h2⟩
/-- What Log answers. -/
def LogP (w : World) (xs : List (Nat × Nat)) (e : Ending) (w' : World) : Prop := ∃ v, e = .returned (.tuple #[v, .int .u8 0]) ∧ OwR rtE w.heap.size w' v xs ∧ Below w.heap.size w w'
set_option maxRecDepth 1000000 in
set_option maxHeartbeats 2000000 in
theorem log_walk (h : BM w ρ L T G B) {m : Nat} (hm : m < 4) (hn : (B.logs m).length ≤ 1000000000) :
    Calls Try.prog 37 #[.pointer (some ⟨T.bB, 0, none⟩), .int .i64 (m : Int)] w fun e w' => LogP w (B.logs m) e w' := by
  have HM := hid (mutator_ok T.bB hm w)
  have c2 := (h.lcells hm).2.2
  have HH := hid h
  have HEa := hid (fun eB v wr (hl : LgS w eB [] v wr) => each_log h hl hm hn)
  obtain ⟨n, hn'⟩ : ∃ n, (B.logs m).length = n := ⟨_, rfl⟩
  rw [hn'] at c2 hn
  have hmk := make_E n hn
  clear h hn' hm
  obtain ⟨g, hg⟩ : ∃ g, w.heap.size = g := ⟨_, rfl⟩
  go_enter Try.func37, Try.ntmps37
  go_wp2_with fail
  refine HM.out.mono ?_
  rintro e1 w1 ⟨rfl, rfl⟩
  clear HM
  go_upto_region 5 with fail
  have HL : Hid (LgS w1 (g + 1) [] (.slice (some ⟨g, 0, none⟩) 0 n) ((w1.alloc (.cells (madeCells #[.int .u64 0, .int .u64 0] (n * 2)) 59)).alloc (.cells #[.slice (some ⟨g, 0, none⟩) 0 n] 56))) := hid (by
    obtain ⟨wa, hwa⟩ : ∃ wa, w1.alloc (.cells (madeCells #[.int .u64 0, .int .u64 0] (n * 2)) 59) = wa := ⟨_, rfl⟩
    have hsz : wa.heap.size = g + 1 := by rw [← hwa]; simp [hg]
    have hb0 : Below w1.heap.size w1 wa := by rw [← hwa]; exact nbel w1 _
    have hb1 := nbel wa (.cells #[.slice (some ⟨g, 0, none⟩) 0 n] 56)
    rw [hwa]
    refine ⟨?_, ?_, hb0.trans (hb1.mono hb0.size), by omega⟩
    · refine ⟨by simp, .inr ⟨g, n, madeCells #[.int .u64 0, .int .u64 0] (n * 2), rfl, by omega, ?_, Nat.zero_le _, by unfold maxLen; omega, ?_, by simp⟩⟩
      · rw [hb1.block g (by omega), ← hwa]
        subst hg
        generalize madeCells #[.int .u64 0, .int .u64 0] (n * 2) = cs
        show (w1.heap.push (.cells cs 59))[w1.heap.size]? = _
        rw [Array.getElem?_push_size]
        rfl
      · show (madeCells #[.int .u64 0, .int .u64 0] (n * 2)).size = n * 2
        exact size_madeCells _ _
    · have := Blk.new wa [.slice (some ⟨g, 0, none⟩) 0 n] 56
      rw [hsz] at this
      exact this)
  generalize (w1.alloc (.cells (madeCells #[.int .u64 0, .int .u64 0] (n * 2)) 59)).alloc (.cells #[.slice (some ⟨g, 0, none⟩) 0 n] 56) = wz at HL ⊢
  clear hmk c2 hg
  go_wp2_with fail
  refine (HEa.out _ _ _ HL.out).mono ?_
  rintro e2 w2 ⟨rfl, v2, h2⟩
  obtain ⟨a2, q2, e2⟩ := h2.row.shape
  have HR := hid h2
  have ce : w2.cell? ⟨g + 1, 0, none⟩ = some (.slice a2 (B.logs m).length q2) := by rw [h2.box.cell 0, e2]; rfl
  have HR2 : Hid (LogP w1 (B.logs m) (.returned (.tuple #[.slice a2 (B.logs m).length q2, .int .u8 0])) w2) := hid ⟨_, rfl, by rw [← e2]; exact h2.row, h2.bel⟩
  clear HEa HL HR h2 e2
  generalize (B.logs m).length = nn at ce HR2
  go_wp2
  exact bodyPost_ret (v := .tuple #[.slice a2 nn q2, .int .u8 0]) (by simp [results, Try.results37, go_sem]) rfl HR2.out
end
end Go.Proofs.Qxb6500888a
