/- RefinesModel: one step of both; newPlayer. -/
import Derived.Test.Qxb6500890aDoorTxQ4
namespace Go.Proofs.Qxb6500890aDoor
open Go.RowKit
set_option linter.unusedSimpArgs false
set_option linter.unusedVariables false

/-- What is asked of one step. -/
structure OpS (o : TOp) : Prop where
  fa : Fit o.a
  s : o.s.size ≤ 65536
  ln : o.ln ≤ 65536
  rn : o.rn ≤ 65536
  ll : o.list.length ≤ 65536
  rl : o.recs.length ≤ 65536
structure Both (S : TS) (o : TOp) (O : OutP) (S' : TS) : Prop where
  p : ∀ (w : World) (ρ : Rl) (pB bB : Nat) (a : Option Addr) (q : Nat), PlM w ρ pB bB a q S → OpOk w o → Nms w → Calls Tryd.prog 9 #[.pointer (some ⟨pB, 0, none⟩), .agg (opCells o).toArray] w fun e w' => RsP w ρ pB O S' e w'
  m : ∀ (w : World) (mB : Nat), Blk w mB 31 (stC S) → OpOk w o → Calls Tryd.prog 10 #[.pointer (some ⟨mB, 0, none⟩), .agg (opCells o).toArray] w fun e w' => MsP w mB O S' e w'
  bs : S'.bs.length ≤ S.bs.length + 65536
  lim : S'.lim ≤ 9223372036854775807
  ll : O.list.length ≤ 65536
  rl : O.recs.length ≤ 65536
theorem wrS_len (S : TS) (s : List UInt8) (h : s.length ≤ 65536) : (wrS S s).bs.length ≤ S.bs.length + 65536 ∧ (wrS S s).lim = S.lim := by
  unfold wrS
  split
  · dsimp only
    rw [List.length_append]
    exact ⟨by omega, rfl⟩
  · exact ⟨by omega, rfl⟩
theorem trS_len (S : TS) (z : Int) : (trS S z).bs.length ≤ S.bs.length + 65536 := by
  unfold trS
  dsimp only
  split
  · rw [List.length_take]; omega
  · omega
set_option maxHeartbeats 1000000 in
theorem step_both (S : TS) (o : TOp) (ho : OpS o) (hb : S.bs.length + 65536 ≤ 68719476736) (hlm : S.lim ≤ 9223372036854775807) : ∃ O S', Both S o O S' := by
  have z1 : ([] : List ByteArray).length ≤ 65536 := Nat.zero_le _
  have z2 : ([] : List Rec).length ≤ 65536 := Nat.zero_le _
  by_cases hx : o.kind < 0 ∨ 22 < o.kind
  · exact ⟨_, _, fun w ρ pB bB a q h hok hN => pstepX_walk h o hok hx, fun w mB h hok => mstepX_walk h o hok hx, by omega, hlm, z1, z2⟩
  have hk : o.kind = 0 ∨ o.kind = 1 ∨ o.kind = 2 ∨ o.kind = 3 ∨ o.kind = 4 ∨ o.kind = 5 ∨ o.kind = 6 ∨ o.kind = 7 ∨ o.kind = 8 ∨ o.kind = 9 ∨ o.kind = 10 ∨ o.kind = 11 ∨ o.kind = 12 ∨ o.kind = 13 ∨ o.kind = 14 ∨ o.kind = 15 ∨ o.kind = 16 ∨ o.kind = 17 ∨ o.kind = 18 ∨ o.kind = 19 ∨ o.kind = 20 ∨ o.kind = 21 ∨ o.kind = 22 := by omega
  rcases hk with h | h | h | h | h | h | h | h | h | h | h | h | h | h | h | h | h | h | h | h | h | h | h
  · exact ⟨_, _, fun w ρ pB bB a q h1 hok hN => pstep0_walk h1 o hok h, fun w mB h1 hok => mstep0_walk h1 o hok h, by omega, hlm, z1, z2⟩
  · exact ⟨_, _, fun w ρ pB bB a q h1 hok hN => pstep1_walk h1 o hok h, fun w mB h1 hok => mstep1_walk h1 o hok h, by omega, hlm, z1, z2⟩
  · exact ⟨_, _, fun w ρ pB bB a q h1 hok hN => pstep2_walk h1 o hok h, fun w mB h1 hok => mstep2_walk h1 o hok h, by omega, hlm, z1, z2⟩
  · exact ⟨_, _, fun w ρ pB bB a q h1 hok hN => pstep3_walk h1 o hok h, fun w mB h1 hok => mstep3_walk h1 o hok h, by omega, hlm, z1, z2⟩
  · exact ⟨_, _, fun w ρ pB bB a q h1 hok hN => pstep4_walk h1 o hok h, fun w mB h1 hok => mstep4_walk h1 o hok h, by omega, hlm, z1, z2⟩
  · exact ⟨_, _, fun w ρ pB bB a q h1 hok hN => pstep5_walk h1 o hok h, fun w mB h1 hok => mstep5_walk h1 o hok h, by omega, hlm, z1, z2⟩
  · exact ⟨_, _, fun w ρ pB bB a q h1 hok hN => pstep6_walk h1 o hok h, fun w mB h1 hok => mstep6_walk h1 o hok h, by omega, hlm, z1, z2⟩
  · exact ⟨_, _, fun w ρ pB bB a q h1 hok hN => pstep7_walk h1 o hok h, fun w mB h1 hok => mstep7_walk h1 o hok h, by omega, hlm, z1, z2⟩
  · exact ⟨_, _, fun w ρ pB bB a q h1 hok hN => pstep8_walk h1 o hok h, fun w mB h1 hok => mstep8_walk h1 o hok h, by omega, hlm, z1, z2⟩
  · exact ⟨_, _, fun w ρ pB bB a q h1 hok hN => pstep9_walk h1 o hok h ho.ln, fun w mB h1 hok => mstep9_walk h1 o hok h ho.ln, by omega, hlm, by show (ssort ltS o.list).length ≤ _; rw [ssort_length]; exact ho.ll, z2⟩
  · exact ⟨_, _, fun w ρ pB bB a q h1 hok hN => pstep10_walk h1 o hok h ho.rn, fun w mB h1 hok => mstep10_walk h1 o hok h ho.rn, by omega, hlm, z1, by show (ssort ltK o.recs).length ≤ _; rw [ssort_length]; exact ho.rl⟩
  · exact ⟨_, _, fun w ρ pB bB a q h1 hok hN => pstep11_walk h1 o hok h ho.ln, fun w mB h1 hok => mstep11_walk h1 o hok h ho.ln, by omega, hlm, z1, z2⟩
  · exact ⟨_, _, fun w ρ pB bB a q h1 hok hN => pstep12_walk h1 o hok h, fun w mB h1 hok => mstep12_walk h1 o hok h, by show ([] : List UInt8).length ≤ _; simp, by have := ho.fa.2; show o.a.toNat ≤ _; omega, z1, z2⟩
  · have hw := wrS_len S [byteA o.a] (by simp)
    exact ⟨_, _, fun w ρ pB bB a q h1 hok hN => pstep13_walk h1 o hok h hb, fun w mB h1 hok => mstep13_walk h1 o hok h hb hlm, hw.1, by rw [hw.2]; exact hlm, z1, z2⟩
  · have hw := wrS_len S o.s.data.toList ho.s
    exact ⟨_, _, fun w ρ pB bB a q h1 hok hN => pstep14_walk h1 o hok h hb ho.s, fun w mB h1 hok => mstep14_walk h1 o hok h hb hlm ho.s, hw.1, by rw [hw.2]; exact hlm, z1, z2⟩
  · have hw := wrS_len S (fmtL o.a) (by have := fmt_len o.a ho.fa.1 ho.fa.2; omega)
    exact ⟨_, _, fun w ρ pB bB a q h1 hok hN => pstep15_walk h1 o hok h hb, fun w mB h1 hok => mstep15_walk h1 o hok h hb hlm, hw.1, by rw [hw.2]; exact hlm, z1, z2⟩
  · exact ⟨_, _, fun w ρ pB bB a q h1 hok hN => pstep16_walk h1 o hok h, fun w mB h1 hok => mstep16_walk h1 o hok h (by omega), trS_len S o.a, hlm, z1, z2⟩
  · exact ⟨_, _, fun w ρ pB bB a q h1 hok hN => pstep17_walk h1 o hok h, fun w mB h1 hok => mstep17_walk h1 o hok h, by show ([] : List UInt8).length ≤ _; simp, hlm, z1, z2⟩
  · refine ⟨_, _, fun w ρ pB bB a q h1 hok hN => pstep18_walk h1 o hok h, fun w mB h1 hok => mstep18_walk h1 o hok h (by omega), by omega, hlm, ?_, ?_⟩
    · unfold atO; split <;> exact z1
    · unfold atO; split <;> exact z2
  · exact ⟨_, _, fun w ρ pB bB a q h1 hok hN => pstep19_walk h1 o hok h ho.s, fun w mB h1 hok => mstep19_walk h1 o hok h ho.s, by omega, hlm, z1, z2⟩
  · exact ⟨_, _, fun w ρ pB bB a q h1 hok hN => pstep20_walk h1 o hok h ho.s, fun w mB h1 hok => mstep20_walk h1 o hok h ho.s, by omega, hlm, z1, z2⟩
  · exact ⟨_, _, fun w ρ pB bB a q h1 hok hN => pstep21_walk h1 o hok h hN, fun w mB h1 hok => mstep21_walk h1 o hok h, by omega, hlm, z1, z2⟩
  · exact ⟨_, _, fun w ρ pB bB a q h1 hok hN => pstep22_walk h1 o hok h, fun w mB h1 hok => mstep22_walk h1 o hok h, by show S.bs.length ≤ _; omega, hlm, z1, z2⟩
def S0 : TS := ⟨[], 0, ⟨0, 0, 0⟩⟩
def NpP (w : World) (e : Ending) (w' : World) : Prop := e = .returned (.pointer (some ⟨w.heap.size + 1, 0, none⟩)) ∧ w' = (w.alloc (.cells #[.slice none 0 0, .int .i64 0] 93)).alloc (.cells #[.pointer (some ⟨w.heap.size, 0, none⟩), .int .i64 0, .int .i64 0, .int .i64 0] 45)
set_option maxRecDepth 100000 in
set_option maxHeartbeats 1000000 in
theorem newPlayer_walk (w : World) : Calls Tryd.prog 7 #[] w fun e w' => NpP w e w' := by
  have HF := hid (newBuffer_walk 0 ⟨by omega, by omega⟩ w)
  obtain ⟨n, hn⟩ : ∃ n, w.heap.size = n := ⟨_, rfl⟩
  unfold NpP
  rw [hn] at HF ⊢
  go_enter Tryd.func7, Tryd.ntmps7
  go_wp2_with fail
  refine HF.out.mono ?_
  rintro e1 w1 ⟨rfl, rfl⟩
  clear HF
  go_wp2
  go_ret
  exact ⟨rfl, rfl⟩
end Go.Proofs.Qxb6500890aDoor
