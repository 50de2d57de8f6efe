/- The walk of textlaw.strs: every string that the script mentions. -/
import Derived.Test.Qxb6500890aTextSmall
import Derived.Test.Qxb6500890aOwn
namespace Go.Proofs.Qxb6500890a
open Go.RowKit
set_option linter.unusedSimpArgs false
set_option linter.unusedVariables false

def opStrs (o : TOp) : List ByteArray := o.s :: o.t :: (o.list ++ o.recs.map (·.1))
def strsOf (l : List TOp) : List ByteArray := l.flatMap opStrs

theorem info_str : (Try.prog.info? 9).map (fun i => (i.zero, i.size, i.bytes)) = some (some (.string ByteArray.empty), 1, 16) := by kernel_rfl

def StrsPost (l : List TOp) (w : World) (e : Ending) (w' : World) : Prop := ∃ a n c, e = .returned (.slice a n c) ∧ RowOf w' 1 strCell a n c (strsOf l) ∧ Below w.heap.size w w'

/-- All eight cells of a step. -/
theorem Script.at {w : World} {a : Option Addr} {n c : Nat} {l : List TOp} (h : Script w a n c l) {k : Nat} (hk : k < n) :
    ∃ o, l[k]? = some o ∧ OpOk w o ∧ ∃ b off, a = some ⟨b, off, none⟩ ∧ b < w.heap.size ∧ w.cell? ⟨b, off + k * 8, none⟩ = some (.int .i64 o.kind) ∧ w.cell? ⟨b, off + k * 8 + 1, none⟩ = some (.int .i64 o.a) ∧ w.cell? ⟨b, off + k * 8 + 2, none⟩ = some (.int .i64 o.b) ∧
      w.cell? ⟨b, off + k * 8 + 3, none⟩ = some (.int .i64 o.c) ∧ w.cell? ⟨b, off + k * 8 + 4, none⟩ = some (.string o.s) ∧ w.cell? ⟨b, off + k * 8 + 5, none⟩ = some (.string o.t) ∧ w.cell? ⟨b, off + k * 8 + 6, none⟩ = some (.slice o.la o.ln o.lc) ∧ w.cell? ⟨b, off + k * 8 + 7, none⟩ = some (.slice o.ra o.rn o.rc) := by
  obtain ⟨o, ho, b, off, ha, hb, hc⟩ := h.1.cell hk
  exact ⟨o, ho, h.2 o (List.mem_of_getElem? ho), b, off, ha, hb, hc 0 (by omega), hc 1 (by omega), hc 2 (by omega), hc 3 (by omega), hc 4 (by omega), hc 5 (by omega), hc 6 (by omega), hc 7 (by omega)⟩

theorem strs_take_len (l : List TOp) (k : Nat) (h : ∀ o ∈ l, o.list.length = o.ln ∧ o.recs.length = o.rn) : (strsOf (l.take k)).length ≤ 2 * l.length + opsW l := by
  induction l generalizing k with
  | nil => simp [strsOf]
  | cons o l ih =>
    cases k with
    | zero => simp [strsOf]
    | succ k =>
      have h1 := ih k (fun x hx => h x (by simp [hx]))
      obtain ⟨e1, e2⟩ := h o (by simp)
      simp only [strsOf, List.take_succ_cons, List.flatMap_cons, List.length_append, opsW, List.map_cons, List.sum_cons, List.length_cons] at h1 ⊢
      have : (opStrs o).length ≤ 2 + opW o := by simp [opStrs, opW, e1, e2]; omega
      omega

theorem strs_succ (l : List TOp) (k : Nat) (o : TOp) (h : l[k]? = some o) : strsOf (l.take (k + 1)) = strsOf (l.take k) ++ opStrs o := by
  simp [strsOf, List.take_add_one, h]

theorem strCell_flat (l : List ByteArray) : l.flatMap strCell = l.map .string := by
  induction l with
  | nil => rfl
  | cons x l ih => simp [strCell, ih]

set_option maxRecDepth 100000 in
set_option maxHeartbeats 1000000 in
theorem strs_walk (a : Option Addr) (n c : Nat) (l : List TOp) (w : World) (hs : Script w a n c l) (hsm : n + opsW l ≤ 65536) :
    Calls Try.prog 15 #[.slice a n c] w (StrsPost l w) := by
  obtain ⟨i0, hi, hz0, hz1, hz2⟩ := info_parts info_str
  have HI : Hid (Try.prog.info? 9 = some i0 ∧ i0.zero = some (.string ByteArray.empty) ∧ i0.size = 1 ∧ i0.bytes = 16) := ⟨hi, hz0, hz1, hz2⟩
  have HS : Hid (Script w a n c l) := hs
  have hlen0 : ∀ k, (strsOf (l.take k)).length ≤ 131072 := fun k => by
    have := strs_take_len l k (fun o ho => ⟨(HS.out.2 o ho).list.len, (HS.out.2 o ho).recs.len⟩)
    have := HS.out.1.len
    omega
  have HN : Hid (∀ k, (strsOf (l.take k)).length ≤ 131072) := hlen0
  have hn : n ≤ 65536 := by omega
  clear hs hi hz0 hz1 hz2 hlen0
  go_enter Try.func15, Try.ntmps15
  go_wp2
  go_loopw [3, 10] (fun v i wr => ∃ k : Nat, k ≤ n ∧ i = .int .i64 k ∧ wr.ownsRow w.heap.size 9 1 v (strsOf (l.take k)).length ((strsOf (l.take k)).map .string) ∧ Below w.heap.size w wr) (fun _ i _ => n - (intOf i).toNat)
  case atStart => exact ⟨0, Nat.zero_le _, rfl, World.ownsRow_nil _ _ _ _, Below.refl _ _⟩
  case round =>
    obtain ⟨k, hk, rfl, hown, hbel⟩ := hrel
    have HB : Hid (Below w.heap.size w wr) := hbel
    have HO : Hid (wr.ownsRow w.heap.size 9 1 u3 (strsOf (l.take k)).length ((strsOf (l.take k)).map .string)) := hown
    have hsz : w.heap.size ≤ wr.heap.size := hbel.size
    clear hown hbel
    by_cases hlt : k < n
    · obtain ⟨o, ho, hok, b, off, rfl, hb, c0, c1, c2, c3, c4, c5, c6, c7⟩ := (HS.out.below HB.out).at hlt
      have hok2 := HS.out.2 o (List.mem_of_getElem? ho)
      have HOk : Hid (OpOk w o) := hok2
      have HL : Hid (l[k]? = some o) := ho
      have hlen := HN.out (k + 1)
      rw [strs_succ l k o ho] at hlen
      clear ho hok hok2
      obtain ⟨kind, oa, ob, oc, s, t, la, ln, lc, list, ra, rn, rc, recs⟩ := o
      dsimp only at c0 c1 c2 c3 c4 c5 c6 c7
      simp only [opStrs, List.length_append, List.length_cons, List.length_map] at hlen
      have e1 : list.length = ln := HOk.out.list.len
      have e2 : recs.length = rn := HOk.out.recs.len
      rw [e1, e2] at hlen
      have HE : Hid (list.length = ln ∧ recs.length = rn) := ⟨e1, e2⟩
      clear e1 e2
      generalize hX : (strsOf (l.take k)).map Value.string = X at *
      generalize hL : (strsOf (l.take k)).length = L at *
      have HX : Hid ((strsOf (l.take k)).map Value.string = X ∧ (strsOf (l.take k)).length = L) := ⟨hX, hL⟩
      clear hX hL
      go_wp2_with (first
        | (at_builtin; refine wpList_append_row _ rfl (.tmp 14) (.tmp 19) 30 rfl w.heap.size 9 i0 (.string ByteArray.empty) 1 16 Try.underlying30 HI.out.1 HI.out.2.1 HI.out.2.2.1 HI.out.2.2.2 rfl (by decide) _ _ _ rfl ((HO.out.alloc _).alloc _) (some ⟨wr.heap.size + 1, 0, none⟩) 2 2 [.string s, .string t] rfl rfl (fun h => by cases h) (newRow _ [.string s, .string t] _ _ (by simp)) (fun u hu => by simp at hu; rcases hu with rfl | rfl <;> rfl) (by omega) (by decide) (by simp; omega) ?_; intro v1 w1 hown1 hb1 hk1 hg1; have d6 : w1.cell? ⟨wr.heap.size, 6, none⟩ = some (.slice la ln lc) := (keepCell 6 (hk1 _ (by simp; omega) (fun g hg => by have := (HO.out.lt g hg).2; omega))).trans (by simp [go_sem]); have d7 : w1.cell? ⟨wr.heap.size, 7, none⟩ = some (.slice ra rn rc) := (keepCell 7 (hk1 _ (by simp; omega) (fun g hg => by have := (HO.out.lt g hg).2; omega))).trans (by simp [go_sem]); have HB1 : Hid (Below w.heap.size w w1) := ((HB.out.alloc hsz _).alloc (by simp; omega) _).trans hb1; have hs1 : wr.heap.size + 2 ≤ w1.heap.size := (by have := hb1.size; simp at this; omega); have HO1 := hid hown1; have HG1 : Hid (∀ g, v1.ownBlock = some g → g ≠ wr.heap.size) := (fun g hg => (hg1 g hg).elim (fun h => by have := (HO.out.lt g h).2; omega) (fun h => by simp at h; omega)); clear hb1 hk1 hown1 hg1)
        | (at_builtin; refine wpList_append_row _ rfl (.tmp 21) (.tmp 23) 30 rfl w.heap.size 9 i0 (.string ByteArray.empty) 1 16 Try.underlying30 HI.out.1 HI.out.2.1 HI.out.2.2.1 HI.out.2.2.2 rfl (by decide) _ _ _ rfl HO1.out la ln lc (list.map .string) rfl (by rw [List.length_map, HE.out.1, Nat.mul_one]) HOk.out.list.nil (by have := (HOk.out.list.below HB1.out).cells (by decide) (fun _ => rfl); rw [strCell_flat] at this; exact this) (fun u hu => by simp at hu; obtain ⟨x, _, rfl⟩ := hu; rfl) (by omega) (by decide) (by omega) ?_; intro v2 w2 hown2 hb2 hk2 hg2; have d7' : w2.cell? ⟨wr.heap.size, 7, none⟩ = some (.slice ra rn rc) := (keepCell 7 (hk2 _ (by omega) (fun g hg => (HG1.out g hg).symm))).trans d7; have HB2 : Hid (Below w.heap.size w w2) := HB1.out.trans hb2; have HO2 := hid hown2; clear hb2 hk2 hown2 hg2))
      go_loopw [3, 28] (fun v i wx => ∃ m : Nat, m ≤ rn ∧ i = .int .i64 m ∧ wx.ownsRow w.heap.size 9 1 v (L + 2 + ln + m) (X ++ [.string s, .string t] ++ list.map .string ++ (recs.take m).map (fun r => .string r.1)) ∧ Below w.heap.size w wx) (fun _ i _ => rn - (intOf i).toNat)
      case atStart => exact ⟨0, Nat.zero_le _, rfl, by simpa using HO2.out, HB2.out⟩
      case round =>
        rename_i wx
        obtain ⟨m, hm, rfl, hown3, hb3⟩ := hrel
        clear c0 c1 c2 c3 c4 c5 c6 c7 d6 d7 d7'
        have HB3 : Hid (Below w.heap.size w wr) := hb3
        have HO3 := hid hown3
        have hsz3 := hb3.size
        clear hown3 hb3
        by_cases hlt2 : m < rn
        · obtain ⟨x, hx, b', off', rfl, hb', hc'⟩ := (HOk.out.recs.below HB3.out).cell hlt2
          have e0 : wr.cell? ⟨b', off' + m * 2, none⟩ = some (.string x.1) := hc' 0 (by omega)
          have e1 : wr.cell? ⟨b', off' + m * 2 + 1, none⟩ = some (.int .i64 x.2) := hc' 1 (by omega)
          have HM : Hid (recs[m]? = some x) := hx
          clear hx hc'
          go_wp2_with (at_builtin; refine wpList_append_row _ rfl (.tmp 32) (.tmp 35) 30 rfl w.heap.size 9 i0 (.string ByteArray.empty) 1 16 Try.underlying30 HI.out.1 HI.out.2.1 HI.out.2.2.1 HI.out.2.2.2 rfl (by decide) _ _ _ rfl ((HO3.out.alloc _).alloc _) (some ⟨wr.heap.size + 1, 0, none⟩) 1 1 [.string x.1] rfl rfl (fun h => by cases h) (newRow _ [.string x.1] _ _ (by simp)) (fun u hu => by simp at hu; subst hu; rfl) (by omega) (by decide) (by simp; omega) ?_; intro v4 w4 hown4 hb4 hk4 hg4; have HB4 : Hid (Below w.heap.size w w4) := ((HB3.out.alloc hsz3 _).alloc (by simp; omega) _).trans hb4; have HO4 := hid hown4; clear hb4 hk4 hown4 hg4)
          refine ⟨⟨m + 1, by omega, by go_num, ?_, HB4.out⟩, by simp [intOf]; omega⟩
          have := HO4.out
          rw [List.take_add_one, HM.out]
          simpa [Nat.add_assoc] using this
        · go_wp2
          refine ⟨⟨k + 1, by omega, by go_num, ?_, HB3.out⟩, by simp [intOf]; omega⟩
          have h5 := HO3.out
          have em : m = rn := by omega
          rw [List.take_of_length_le (by rw [HE.out.2]; omega)] at h5
          rw [strs_succ l k _ HL.out, List.map_append, HX.out.1, List.length_append, HX.out.2]
          have e5 : (opStrs ⟨kind, oa, ob, oc, s, t, la, ln, lc, list, ra, rn, rc, recs⟩).length = 2 + ln + rn := by
            simp [opStrs, HE.out.1, HE.out.2]; omega
          rw [e5, show L + (2 + ln + rn) = L + 2 + ln + m by omega]
          simpa [opStrs, Function.comp_def] using h5
    · go_wp2
      go_ret
      have h5 := HO.out
      rw [List.take_of_length_le (by rw [HS.out.1.len]; omega), ← strCell_flat] at h5
      have h6 := HN.out n
      rw [List.take_of_length_le (by rw [HS.out.1.len]; omega)] at h6
      obtain ⟨a', n', c', rfl, hr⟩ := ownsRow_row (sz := 1) (f := strCell) (l := strsOf l) (by decide) (fun _ => rfl) (by omega) h5
      exact ⟨a', n', c', rfl, hr, HB.out⟩
end Go.Proofs.Qxb6500890a
