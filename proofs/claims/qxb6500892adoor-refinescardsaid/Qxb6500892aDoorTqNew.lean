/- New. -/
import Derived.Test.Qxb6500892aDoorTqNewV
namespace Go.Proofs.Qxb6500892aDoor
open Go.RowKit
set_option linter.unusedSimpArgs false
set_option linter.unusedVariables false

/-- The engine while New fills it: bi buckets, qi lists and ni nodes are filled. -/
def nsS (n m sl ki ko kn sh bi qi ni : Nat) : ES where
  n := n
  m := m
  slots := sl
  kin := ki
  kout := ko
  kneg := kn
  prv i := if i < ni then -1 else 0
  nxt i := if i < ni then -1 else 0
  chn i := if i < ni then -1 else 0
  pin _ := 0
  key _ := 0
  whr _ := 0
  neg _ := false
  hd q := if q < qi then -1 else 0
  tl q := if q < qi then -1 else 0
  sz _ := 0
  bk b := if b < bi then -1 else 0
  shift := sh
  negs := 0
  pinned := 0
theorem upd_lt (x y : Int) (i : Nat) : upd (fun j => if j < i then x else y) i x = fun j => if j < i + 1 then x else y := by
  funext j
  unfold upd
  by_cases h : j = i
  · rw [if_pos h, if_pos (by omega)]
  · rw [if_neg h]
    show (if j < i then x else y) = _
    by_cases h2 : j < i
    · rw [if_pos h2, if_pos (by omega)]
    · rw [if_neg h2, if_neg (by omega)]
theorem upd_const {α : Type} (x : α) (i : Nat) : upd (fun _ => x) i x = fun _ => x := by
  funext j
  unfold upd
  split <;> rfl
section
variable {e gn gb n m sl ki ko kn sh bi qi ni : Nat} {w : World}
theorem nsS_bk (h : EM e gn gb (nsS n m sl ki ko kn sh bi qi ni) w) (hb : bi < m) : EM e gn gb (nsS n m sl ki ko kn sh (bi + 1) qi ni) (w.setCell ⟨gb, bi, none⟩ (.int .i32 (-1))) := by
  have h1 := h.setBk (b := bi) hb (-1)
  have e1 : nsS n m sl ki ko kn sh (bi + 1) qi ni = { nsS n m sl ki ko kn sh bi qi ni with bk := upd (nsS n m sl ki ko kn sh bi qi ni).bk bi (-1) } := by
    unfold nsS
    rw [upd_lt]
  rw [e1]
  exact h1
theorem nsS_q (h : EM e gn gb (nsS n m sl ki ko kn sh bi qi ni) w) (hq : qi < 5) : EM e gn gb (nsS n m sl ki ko kn sh bi (qi + 1) ni) (w.setCells e (5 + qi * 3) [.int .i32 (-1), .int .i32 (-1), .int .i64 0]) := by
  have h1 := ((h.setHd (q := qi) hq (-1)).setTl (q := qi) hq (-1)).setSz (q := qi) hq 0
  have e1 : nsS n m sl ki ko kn sh bi (qi + 1) ni = { nsS n m sl ki ko kn sh bi qi ni with hd := upd (nsS n m sl ki ko kn sh bi qi ni).hd qi (-1), tl := upd (nsS n m sl ki ko kn sh bi qi ni).tl qi (-1), sz := upd (nsS n m sl ki ko kn sh bi qi ni).sz qi 0 } := by
    unfold nsS
    simp only [upd_lt, upd_const]
  rw [e1]
  exact h1
theorem nsS_n (h : EM e gn gb (nsS n m sl ki ko kn sh bi qi ni) w) (hi : ni < n) : EM e gn gb (nsS n m sl ki ko kn sh bi qi (ni + 1)) (w.setCells gn (ni * 7) [.int .i32 (-1), .int .i32 (-1), .int .i32 (-1), .int .i32 0, .int .u64 0, .int .u8 0, .bool false]) := by
  have h1 := ((((((h.setPrv (i := ni) hi (-1)).setNxt (i := ni) hi (-1)).setChn (i := ni) hi (-1)).setPin (i := ni) hi 0).setKey (i := ni) hi 0).setWhr (i := ni) hi 0).setNeg (i := ni) hi false
  have e1 : nsS n m sl ki ko kn sh bi qi (ni + 1) = { nsS n m sl ki ko kn sh bi qi ni with prv := upd (nsS n m sl ki ko kn sh bi qi ni).prv ni (-1), nxt := upd (nsS n m sl ki ko kn sh bi qi ni).nxt ni (-1), chn := upd (nsS n m sl ki ko kn sh bi qi ni).chn ni (-1), pin := upd (nsS n m sl ki ko kn sh bi qi ni).pin ni 0, key := upd (nsS n m sl ki ko kn sh bi qi ni).key ni 0, whr := upd (nsS n m sl ki ko kn sh bi qi ni).whr ni 0, neg := upd (nsS n m sl ki ko kn sh bi qi ni).neg ni false } := by
    unfold nsS
    simp only [upd_lt, upd_const]
  rw [e1]
  exact h1
end
theorem info_nd : ∃ i, Tryd.prog.info? 86 = some i ∧ i.zero = some (.agg #[.int .i32 0, .int .i32 0, .int .i32 0, .int .i32 0, .int .u64 0, .int .u8 0, .bool false]) ∧ i.size = 7 ∧ i.bytes = 32 := by
  have h : (Tryd.prog.info? 86).map (fun i => (i.zero, i.size, i.bytes)) = some (some (.agg #[.int .i32 0, .int .i32 0, .int .i32 0, .int .i32 0, .int .u64 0, .int .u8 0, .bool false]), 7, 32) := by kernel_rfl
  obtain ⟨i, hi, he⟩ := Option.map_eq_some_iff.1 h
  simp only [Prod.mk.injEq] at he
  exact ⟨i, hi, he.1, he.2.1, he.2.2⟩
theorem info_i32 : (Tryd.prog.info? 21).map (fun i => (i.zero, i.size, i.bytes)) = some (some (.int .i32 0), 1, 4) := by kernel_rfl
theorem info_nd1 : (Tryd.prog.info? 86).map (·.size) = some 7 := by kernel_rfl
theorem info_ls1 : (Tryd.prog.info? 78).map (·.size) = some 3 := by kernel_rfl
section
variable (n m sl ki ko kn sh : Nat)
theorem made_nd : madeCells #[.int .i32 0, .int .i32 0, .int .i32 0, .int .i32 0, .int .u64 0, .int .u8 0, .bool false] (n * 7) = (fnL (n * 7) fun c => ndV (nsS n m sl ki ko kn sh 0 0 0) (c / 7) (c % 7)).toArray := by
  apply Array.ext
  · simp [madeCells, fnL_len]
  · intro c h1 h2
    have hc : c < n * 7 := by simpa [madeCells] using h1
    have h3 := fnL_get (n := n * 7) (fun c => ndV (nsS n m sl ki ko kn sh 0 0 0) (c / 7) (c % 7)) hc
    refine Eq.trans ?_ (List.getElem?_eq_some_iff.1 h3).2.symm
    simp only [madeCells, Array.getElem_map, Array.getElem_range, List.size_toArray, List.length_cons, List.length_nil]
    have hj : c % 7 < 7 := Nat.mod_lt _ (by omega)
    generalize c % 7 = j at hj
    rcases j with _ | _ | _ | _ | _ | _ | _ | j <;> first | rfl | omega
theorem made_bk : madeCells #[.int .i32 0] m = (fnL m fun c => .int .i32 ((nsS n m sl ki ko kn sh 0 0 0).bk c)).toArray := by
  apply Array.ext
  · simp [madeCells, fnL_len]
  · intro c h1 h2
    have hc : c < m := by simpa [madeCells] using h1
    have h3 := fnL_get (n := m) (fun c => .int .i32 ((nsS n m sl ki ko kn sh 0 0 0).bk c)) hc
    refine Eq.trans ?_ (List.getElem?_eq_some_iff.1 h3).2.symm
    simp [madeCells, Nat.mod_one, nsS]
theorem fnL24 (f : Nat → Value) : fnL 24 f = [f 0, f 1, f 2, f 3, f 4, f 5, f 6, f 7, f 8, f 9, f 10, f 11, f 12, f 13, f 14, f 15, f 16, f 17, f 18, f 19, f 20, f 21, f 22, f 23] := by
  unfold fnL
  rfl
theorem made_en (gn gb : Nat) : fnL 24 (enV gn gb (nsS n m sl ki ko kn sh 0 0 0)) = [.int .i64 (sl : Int), .int .i64 (ki : Int), .int .i64 (ko : Int), .int .i64 (kn : Int), .slice (some ⟨gn, 0, none⟩) n n, .int .i32 0, .int .i32 0, .int .i64 0, .int .i32 0, .int .i32 0, .int .i64 0, .int .i32 0, .int .i32 0, .int .i64 0, .int .i32 0, .int .i32 0, .int .i64 0, .int .i32 0, .int .i32 0, .int .i64 0, .slice (some ⟨gb, 0, none⟩) m m, .int .u64 (sh : Int), .int .i64 0, .int .i64 0] := by
  rw [fnL24]
  rfl
end
theorem make_nd (n : Nat) (hn : n ≤ 100000000) (w : World) : (Instr.makeSlice 79 (.int .i64 (n : Int)) (.int .i64 (n : Int))).run Tryd.prog w = .ok (.slice (some ⟨w.heap.size, 0, none⟩) n n) (w.alloc (.cells (madeCells #[.int .i32 0, .int .i32 0, .int .i32 0, .int .i32 0, .int .u64 0, .int .u8 0, .bool false] (n * 7)) 86)) := by
  obtain ⟨i0, hi, hz0, hz1, hz2⟩ := info_nd
  have := run_make (P := Tryd.prog) w 79 86 i0 _ Tryd.underlying79 hi hz0 .i64 .i64 (n : Int) (n : Int) (by omega) (by omega) (by rw [hz2]; omega) (by omega)
  rw [hz1, show (Value.agg #[.int .i32 0, .int .i32 0, .int .i32 0, .int .i32 0, .int .u64 0, .int .u8 0, .bool false]).cells = #[.int .i32 0, .int .i32 0, .int .i32 0, .int .i32 0, .int .u64 0, .int .u8 0, .bool false] from rfl] at this
  simpa using this
theorem make_bk (m : Nat) (hm : m ≤ 100000000) (w : World) : (Instr.makeSlice 81 (.int .i64 (m : Int)) (.int .i64 (m : Int))).run Tryd.prog w = .ok (.slice (some ⟨w.heap.size, 0, none⟩) m m) (w.alloc (.cells (madeCells #[.int .i32 0] m) 21)) :=
  run_make_row' (P := Tryd.prog) 81 21 (.int .i32 0) 4 (by kernel_rfl) info_i32 rfl .i64 .i64 m (by omega) (by omega) w
end Go.Proofs.Qxb6500892aDoor
