/- What a step does to the version; equal answers. -/
import Derived.Test.Qxb6500887aGreatAzPc
import Derived.Laws.StructEq
import Derived.Test.Qxb6500887aGreatEqA
namespace Go.Proofs.Qxb6500887aGreat
open Go.RowKit
set_option linter.unusedSimpArgs false
set_option linter.unusedVariables false
def VerO (S : AS) (c : Int) (S' : AS) : Prop := (c = 0 ∧ S'.v = (S.v + 1) % 18446744073709551616) ∨ (c ≠ 0 ∧ S' = S)
section
variable {S : AS} {a b c x n i r s : Int}
theorem storeA_v : VerO S (storeA S a b).1 (storeA S a b).2 := by unfold storeA; (repeat' split) <;> first | exact .inl ⟨rfl, rfl⟩ | exact .inr ⟨by assumption, rfl⟩ | exact .inr ⟨by simp, rfl⟩
theorem zeroA_v : VerO S (zeroA S a b).1 (zeroA S a b).2 := by unfold zeroA; (repeat' split) <;> first | exact .inl ⟨rfl, rfl⟩ | exact .inr ⟨by assumption, rfl⟩ | exact .inr ⟨by simp, rfl⟩
theorem formatA_v : VerO S (formatA S a b c).1 (formatA S a b c).2 := by unfold formatA; (repeat' split) <;> first | exact .inl ⟨rfl, rfl⟩ | exact .inr ⟨by assumption, rfl⟩ | exact .inr ⟨by simp, rfl⟩
theorem eraseA_v : VerO S (eraseA S a).1 (eraseA S a).2 := by unfold eraseA; (repeat' split) <;> first | exact .inl ⟨rfl, rfl⟩ | exact .inr ⟨by assumption, rfl⟩ | exact .inr ⟨by simp, rfl⟩
theorem arStoreRefA_v : VerO S (arStoreRefA S a b c).1 (arStoreRefA S a b c).2 := by unfold arStoreRefA stRfA; (repeat' split) <;> first | exact .inl ⟨rfl, rfl⟩ | exact .inr ⟨by assumption, rfl⟩ | exact .inr ⟨by simp, rfl⟩
theorem arStoreDataA_v : VerO S (arStoreDataA S a b c).1 (arStoreDataA S a b c).2 := by unfold arStoreDataA stDtA; (repeat' split) <;> first | exact .inl ⟨rfl, rfl⟩ | exact .inr ⟨by assumption, rfl⟩ | exact .inr ⟨by simp, rfl⟩
theorem setCountA_v : VerO S (setCountA S a b).1 (setCountA S a b).2 := by unfold setCountA; (repeat' split) <;> first | exact .inl ⟨rfl, rfl⟩ | exact .inr ⟨by assumption, rfl⟩ | exact .inr ⟨by simp, rfl⟩
theorem setLoggedA_v {on : Bool} : VerO S (setLoggedA S a on).1 (setLoggedA S a on).2 := by unfold setLoggedA; (repeat' split) <;> first | exact .inl ⟨rfl, rfl⟩ | exact .inr ⟨by assumption, rfl⟩ | exact .inr ⟨by simp, rfl⟩
theorem tasLoggedA_v : VerO S (wantW a) (tasLoggedA S a) := by unfold tasLoggedA; (repeat' split) <;> first | exact .inl ⟨by assumption, rfl⟩ | exact .inr ⟨by assumption, rfl⟩
theorem fillLoggedA_v {on : Bool} : VerO S (fillLoggedA S a b on).1 (fillLoggedA S a b on).2 := by unfold fillLoggedA; (repeat' split) <;> first | exact .inl ⟨rfl, rfl⟩ | exact .inr ⟨by assumption, rfl⟩ | exact .inr ⟨by simp, rfl⟩
theorem setMarkedA_v {on : Bool} : VerO S (setMarkedA S a on).1 (setMarkedA S a on).2 := by unfold setMarkedA; (repeat' split) <;> first | exact .inl ⟨rfl, rfl⟩ | exact .inr ⟨by assumption, rfl⟩ | exact .inr ⟨by simp, rfl⟩
theorem tasMarkedA_v : VerO S (wantO a) (tasMarkedA S a) := by unfold tasMarkedA; (repeat' split) <;> first | exact .inl ⟨by assumption, rfl⟩ | exact .inr ⟨by assumption, rfl⟩
theorem cmBlockA_v : VerO S (cmBlockA S a).1 (cmBlockA S a).2 := by unfold cmBlockA; (repeat' split) <;> first | exact .inl ⟨rfl, rfl⟩ | exact .inr ⟨by assumption, rfl⟩ | exact .inr ⟨by simp, rfl⟩
theorem occA_v : VerO S (occA S a b).1 (occA S a b).2 := by unfold occA; (repeat' split) <;> first | exact .inl ⟨rfl, rfl⟩ | exact .inr ⟨by assumption, rfl⟩ | exact .inr ⟨by simp, rfl⟩
theorem vacA_v : VerO S (vacA S a b).1 (vacA S a b).2 := by unfold vacA; (repeat' split) <;> first | exact .inl ⟨rfl, rfl⟩ | exact .inr ⟨by assumption, rfl⟩ | exact .inr ⟨by simp, rfl⟩
theorem scrubA_v : VerO S (scrubA S a b).1 (scrubA S a b).2 := by unfold scrubA; (repeat' split) <;> first | exact .inl ⟨rfl, rfl⟩ | exact .inr ⟨by assumption, rfl⟩ | exact .inr ⟨by simp, rfl⟩
theorem setRefAtA_v : VerO S (setRefAtA S a b).1 (setRefAtA S a b).2 := by unfold setRefAtA; (repeat' split) <;> first | exact .inl ⟨rfl, rfl⟩ | exact .inr ⟨by assumption, rfl⟩ | exact .inr ⟨by simp, rfl⟩
theorem plW_ver {k : Nat} {q : Int × Int × AS} (h : plW S k a b c = some q) : VerO S q.1 q.2.2 := by
  unfold plW at h
  split at h
  all_goals first | (cases h; done) | (injection h with h; rw [← h])
  · exact storeA_v
  · exact zeroA_v
  · exact formatA_v
  · exact eraseA_v
  · exact arStoreRefA_v
  · exact arStoreDataA_v
  · exact setCountA_v
  · exact setLoggedA_v
  · exact tasLoggedA_v
  · exact fillLoggedA_v
  · exact .inl ⟨rfl, rfl⟩
  · exact setMarkedA_v
  · exact tasMarkedA_v
  · exact .inl ⟨rfl, rfl⟩
  · exact cmBlockA_v
  · exact occA_v
  · exact vacA_v
  · exact scrubA_v
  · exact setRefAtA_v
  · exact .inl ⟨rfl, rfl⟩
/-- A step leaves the arena as it was, or is accepted, counted and determined. -/
theorem PlR.two {S' : AS} {k : Nat} {rs : List Value} (h : PlR S k a b c rs S') (hv : S.v < 18446744073709551616) : S' = S ∨ (S'.v ≠ S.v ∧ ∃ v : Int, rs = rsC 0 v 0 ∧ ∀ rs2 S2, PlR S k a b c rs2 S2 → rs2 = rsC 0 v 0 ∧ S2 = S') := by
  cases e : plW S k a b c with
  | none => exact .inl (h.2 e).1
  | some q =>
    obtain ⟨h1, h2⟩ := h.1 q e
    rcases plW_ver e with ⟨c1, c2⟩ | ⟨c1, c2⟩
    · refine .inr ⟨by rw [h2, c2]; omega, q.2.1, ?_, fun rs2 S2 k2 => ?_⟩
      · rw [h1, c1]; rfl
      · obtain ⟨k1, k3⟩ := k2.1 q e
        exact ⟨by rw [k1, c1]; rfl, by rw [k3, h2]⟩
    · exact .inl (by rw [h2, c2])
end
/-- A whole struct's load in a quiet walk, behind 'go_big_quiet_want'. -/
theorem quiet_loadO {P : Program} {C : World → Prop} {K : Act → Prop} {a : Act} {o : Oper} (ty : TypeId) (x : Operand) (ho : o.op = .load ty x) (ad : Addr)
    (hx : a.eval x = .pointer (some ad)) (v : Value) (hr : ∀ w, C w → (Instr.loadAt ty (.pointer (some ad))).run P w = .ok v w) (h : K (a.put o.dst v)) : o.quiet P a C K := by
  refine ⟨v, fun w hC => ?_, h⟩
  have e : (execOp a.eval o).run P w = .ok (.value v) w := by simp [execOp, ho, hx, hr w hC]
  unfold Oper.quietAt
  rw [e]
  exact ⟨rfl, rfl⟩
theorem load_rs {w : World} {g : Nat} {rs : List Value} (h : Blk w g 46 rs) (hl : rs.length = 35) : (Instr.loadAt 46 (.pointer (some ⟨g, 0, none⟩))).run Tryz.prog w = .ok (.agg rs.toArray) w := run_loadAt_mid w g 0 46 rs _ h.rangeAt Tryz.underlying46 rfl (by rw [hl]; exact info_rs)
theorem eq4_z (w : World) : (Op.equalIn 9998 42 (.agg #[.int .i64 0, .int .i64 0, .int .i64 0, .int .i64 0]) (.agg #[.int .i64 0, .int .i64 0, .int .i64 0, .int .i64 0])).run Tryz.prog w = .ok true w := by
  have := run_equalIn_ints (P := Tryz.prog) w 9996 42 3 .i64 [0, 0, 0, 0] [0, 0, 0, 0] rfl Tryz.underlying42 Tryz.underlying3 (by intro w; kernel_rfl)
  rw [decide_eq_true rfl] at this
  exact this
set_option maxHeartbeats 4000000 in
set_option maxRecDepth 100000 in
theorem neq_rs (c v u : Int) (w : World) : (binOp .neq 46 (.agg (rsC c v u).toArray) (.agg (rsC c v u).toArray)).run Tryz.prog w = .ok (.bool false) w := by
  rw [run_neq_struct]
  unfold rsC rsT
  simp [go_sem, part, eq4_z]
theorem equalZ {l l' : AL} {S S' : AS} {w : World} (h : AM l S w) (h' : AM l' S' w) : Calls Tryz.prog 18 #[.pointer (some ⟨l.a, 0, none⟩), .pointer (some ⟨l'.a, 0, none⟩)] w fun e w' => ∃ r : Bool, e = .returned (.bool r) ∧ Hid ((r = true ↔ Sm S S') ∧ Below w.heap.size w w') := by
  have HC := hid (fdZ h h')
  clear h h'
  go_enter Tryz.func18, Tryz.ntmps18
  go_wp2_with fail
  refine HC.out.mono ?_
  rintro e w1 ⟨p, i, rfl, H⟩
  clear HC
  obtain ⟨bb, hbb⟩ : ∃ b, ((p : Int) == 0) = b := ⟨_, rfl⟩
  have HF : Hid (bb = true ↔ Sm S S') := hid (by
    rw [← H.out.1.zero, ← hbb]
    simp)
  go_wp2
  go_ret
  exact ⟨bb, by first | rfl | (rw [← hbb]; rfl) | (simp [← hbb]), hid ⟨HF.out, H.out.2⟩⟩
end Go.Proofs.Qxb6500887aGreat
