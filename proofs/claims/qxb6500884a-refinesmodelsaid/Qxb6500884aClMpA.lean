/- The law partitions: what is in memory. -/
import Derived.Test.Qxb6500884aClMpS
import Derived.Test.Qxb6500884aClMild
namespace Go.Proofs.Qxb6500884a
open Go.RowKit
set_option linter.unusedSimpArgs false
set_option linter.unusedVariables false

theorem made_int (n : Nat) : madeCells #[Value.int .i64 0] n = (intL n fun _ => 0).toArray := by
  apply Array.ext
  · simp [madeCells, intL]
  · intro i h1 h2
    simp [madeCells, Nat.mod_one, intL]
theorem made_bol (n : Nat) : madeCells #[Value.bool false] n = (bolL n fun _ => false).toArray := by
  apply Array.ext
  · simp [madeCells, bolL]
  · intro i h1 h2
    simp [madeCells, Nat.mod_one, bolL]
theorem made_rows (n : Nat) : madeCells #[Value.slice none 0 0] n = (List.replicate n (Value.slice none 0 0)).toArray := by
  apply Array.ext
  · simp [madeCells]
  · intro i h1 h2
    simp [madeCells, Nat.mod_one]
theorem info_int3 : (Try.prog.info? 3).map (fun i => (i.zero, i.size, i.bytes)) = some (some (.int .i64 0), 1, 8) := by kernel_rfl
theorem info_bls : (Try.prog.info? 34).map (fun i => (i.zero, i.size, i.bytes)) = some (some (.slice none 0 0), 1, 24) := by kernel_rfl
theorem make_ints (n : Nat) (hn : n ≤ 1000000) (w : World) : (Instr.makeSlice 26 (.int .i64 (n : Int)) (.int .i64 (n : Int))).run Try.prog w = .ok (.slice (some ⟨w.heap.size, 0, none⟩) n n) (w.alloc (.cells (intL n fun _ => 0).toArray 3)) := by
  rw [← made_int]
  exact run_make_row' (P := Try.prog) 26 3 (.int .i64 0) 8 (by kernel_rfl) info_int3 rfl .i64 .i64 n (by omega) (by omega) w
theorem make_bols (n : Nat) (hn : n ≤ 1000000) (w : World) : (Instr.makeSlice 34 (.int .i64 (n : Int)) (.int .i64 (n : Int))).run Try.prog w = .ok (.slice (some ⟨w.heap.size, 0, none⟩) n n) (w.alloc (.cells (bolL n fun _ => false).toArray 4)) := by
  rw [← made_bol]
  exact run_make_row' (P := Try.prog) 34 4 (.bool false) 1 (by kernel_rfl) info_bool rfl .i64 .i64 n (by omega) (by omega) w
theorem make_rows (n : Nat) (hn : n ≤ 1000000) (w : World) : (Instr.makeSlice 94 (.int .i64 (n : Int)) (.int .i64 (n : Int))).run Try.prog w = .ok (.slice (some ⟨w.heap.size, 0, none⟩) n n) (w.alloc (.cells (List.replicate n (Value.slice none 0 0)).toArray 34)) := by
  rw [← made_rows]
  exact run_make_row' (P := Try.prog) 94 34 (.slice none 0 0) 24 (by kernel_rfl) info_bls rfl .i64 .i64 n (by omega) (by omega) w
theorem tab_bol (f : Nat → Bool) : tabL f = bolL 196608 f := by unfold tabL bolL; rfl
/-- The owners. -/
structure PtO (w1 : World) (go : Nat) (f : Nat → Int) (w : World) : Prop where
  bel : Below w1.heap.size w1 w
  ow : Blk w go 3 (intL 196608 f)
theorem PtO.ext {w1 : World} {go : Nat} {f f' : Nat → Int} {w : World} (h : PtO w1 go f w) (he : ∀ i, i < 196608 → f i = f' i) : PtO w1 go f' w := ⟨h.bel, by rw [← intL_ext he]; exact h.ow⟩
theorem PtO.set {w1 : World} {go : Nat} {f : Nat → Int} {w : World} (h : PtO w1 go f w) (hg : w1.heap.size ≤ go) {c : Nat} (hc : c < 196608) (v : Int) : PtO w1 go (fun i => if i = c then v else f i) (w.setCell ⟨go, c, none⟩ (.int .i64 v)) := by
  have hu : Upd go w (w.setCell ⟨go, c, none⟩ (.int .i64 v)) := (Upd.refl go w).setCell rfl _
  exact ⟨h.bel.trans (hu.below hg h.bel.size), by rw [← intL_set f hc]; exact h.ow.set c _⟩
/-- The owners and the least members. -/
structure PtA (w1 : World) (go gl N : Nat) (f g : Nat → Int) (w : World) : Prop where
  bel : Below w1.heap.size w1 w
  ow : Blk w go 3 (intL 196608 f)
  le : Blk w gl 3 (intL N g)
theorem PtA.below {w1 : World} {go gl N : Nat} {f g : Nat → Int} {w w' : World} (h : PtA w1 go gl N f g w) (hb : Below w.heap.size w w') : PtA w1 go gl N f g w' := ⟨h.bel.trans (hb.mono h.bel.size), h.ow.below hb, h.le.below hb⟩
theorem PtA.ext {w1 : World} {go gl N : Nat} {f f' g g' : Nat → Int} {w : World} (h : PtA w1 go gl N f g w) (he : ∀ i, i < 196608 → f i = f' i) (hf : ∀ i, i < N → g i = g' i) : PtA w1 go gl N f' g' w := ⟨h.bel, by rw [← intL_ext he]; exact h.ow, by rw [← intL_ext hf]; exact h.le⟩
theorem PtA.setO {w1 : World} {go gl N : Nat} {f g : Nat → Int} {w : World} (h : PtA w1 go gl N f g w) (hg : w1.heap.size ≤ go) (hne : go ≠ gl) {c : Nat} (hc : c < 196608) (v : Int) : PtA w1 go gl N (fun i => if i = c then v else f i) g (w.setCell ⟨go, c, none⟩ (.int .i64 v)) := by
  have hu : Upd go w (w.setCell ⟨go, c, none⟩ (.int .i64 v)) := (Upd.refl go w).setCell rfl _
  exact ⟨h.bel.trans (hu.below hg h.bel.size), by rw [← intL_set f hc]; exact h.ow.set c _, h.le.upd hu (Ne.symm hne)⟩
theorem PtA.setL {w1 : World} {go gl N : Nat} {f g : Nat → Int} {w : World} (h : PtA w1 go gl N f g w) (hg : w1.heap.size ≤ gl) (hne : go ≠ gl) {c : Nat} (hc : c < N) (v : Int) : PtA w1 go gl N f (fun i => if i = c then v else g i) (w.setCell ⟨gl, c, none⟩ (.int .i64 v)) := by
  have hu : Upd gl w (w.setCell ⟨gl, c, none⟩ (.int .i64 v)) := (Upd.refl gl w).setCell rfl _
  exact ⟨h.bel.trans (hu.below hg h.bel.size), h.ow.upd hu hne, by rw [← intL_set g hc]; exact h.le.set c _⟩
/-- A register's table. -/
def Tbl (w : World) (r q : Nat) : Prop := ∃ c0, Blk w r 40 [c0, .slice (some ⟨q, 0, none⟩) 196608 196608]
theorem RegOk.tblLt {w : World} {r q : Nat} {l : List (Int × Int)} (h : RegOk w r l) (ht : Tbl w r q) : q < w.heap.size := by
  obtain ⟨a, n, c, tb, h1, _, _, h4⟩ := h.out
  obtain ⟨c0, ht⟩ := ht
  have h5 := (h1.inj2 ht).2
  injection h5 with _ h5
  injection h5 with h5
  rcases h4 with h4 | ⟨g, h4, h6⟩
  · rw [h4] at h5; cases h5
  · rw [h4] at h5; cases h5; exact h6.lt
theorem Tbl.back {w w' : World} {r q : Nat} {l : List (Int × Int)} (h : RegOk w r l) (he : w'.heap[r]? = w.heap[r]?) (ht : Tbl w' r q) : Tbl w r q := by
  obtain ⟨c0, ht⟩ := ht
  refine ⟨c0, ?_⟩
  unfold Blk at ht ⊢
  rw [← he]
  exact ht
theorem RegOk.lt {w : World} {r : Nat} {l : List (Int × Int)} (h : RegOk w r l) : r < w.heap.size := by
  obtain ⟨a, n, c, tb, h1, _⟩ := h.out
  exact h1.lt
/-- members, and where its table lies. -/
theorem members_tbl (r : Nat) (l : List (Int × Int)) (w : World) (h : RegOk w r l) :
    Calls Try.prog 17 #[.pointer (some ⟨r, 0, none⟩)] w fun e w' => ∃ g, MemP r l w e g w' ∧ ∀ q, Tbl w' r q → Tbl w r q ∨ w.heap.size ≤ q := by
  obtain ⟨a, n, c, tb, h1, h2, h3, h4⟩ := h.out
  rcases h4 with rfl | ⟨g, rfl, h5⟩
  · refine (members_new r a n c l w h1 h2 h.nrm (h3.ne h1 (by decide))).mono ?_
    rintro e w' ⟨g, rfl, hg, hb, hu, hr⟩
    refine ⟨g, ⟨rfl, hb, hu, h.nrm, a, n, c, _, hr, h2.upd hu (h3.ne h1 (by decide)), h3.upd h1 (by decide) hu, .inr ⟨g, rfl, hb⟩⟩, fun q hq => .inr ?_⟩
    obtain ⟨c0, hq⟩ := hq
    have h6 := (hr.inj2 hq).2
    injection h6 with _ h6
    injection h6 with h6
    cases h6
    exact hg
  · refine (members_old r g a n c w h1).mono ?_
    rintro e w' ⟨rfl, hb⟩
    exact ⟨g, ⟨rfl, h5.below hb, ⟨hb.os, hb.tape, hb.output, hb.size, fun k hk _ => hb.block k hk⟩, h.below hb⟩, fun q hq => .inl (hq.back h (hb.block r h1.lt))⟩
/-- A store into a block that is no register, no list, no table of this register. -/
theorem RegOk.away {w w' : World} {r q : Nat} {l : List (Int × Int)} {t : TypeId} {ds : List Value} (h : RegOk w r l) (hb : Blk w q t ds) (h1 : 40 ≠ t) (h2 : 67 ≠ t) (hT : 4 ≠ t ∨ ¬ Tbl w r q) (hu : Upd q w w') : RegOk w' r l := by
  obtain ⟨a, n, c, tb, b1, b2, b3, b4⟩ := h.out
  refine ⟨h.nrm, a, n, c, tb, b1.updT hb h1 hu, b2.upd hu (b3.ne hb h2), b3.upd hb h2 hu, ?_⟩
  rcases b4 with b4 | ⟨g, b4, b5⟩
  · exact .inl b4
  · refine .inr ⟨g, b4, ?_⟩
    rcases hT with hT | hT
    · exact b5.updT hb hT hu
    · exact b5.upd hu (fun e => hT ⟨_, by rw [← e, ← b4]; exact b1⟩)
/-- The rows of patterns. -/
def slV (n : Nat) (q : Nat) : Value := .slice (some ⟨q, 0, none⟩) n n
structure PtB (w0 w : World) (go gl gp N fn : Nat) (f g : Nat → Int) (Q : List Nat) (F : Nat → Nat → Bool) (w' : World) : Prop where
  mblk : ∀ (g : Nat) (t : TypeId) (ds : List Value), t ≠ 40 → Blk w g t ds → Blk w' g t ds
  mreg : ∀ (r : Nat) (l : List (Int × Int)), RegOk w r l → RegOk w' r l ∧ ∀ q ∈ Q, ¬ Tbl w' r q
  mlow : Below w0.heap.size w0 w → Below w0.heap.size w0 w'
  msz : w.heap.size ≤ w'.heap.size
  ow : Blk w' go 3 (intL 196608 f)
  le : Blk w' gl 3 (intL N g)
  qn : Q.length ≤ N
  pg : Blk w' gp 34 (Q.map (slV fn) ++ List.replicate (N - Q.length) (.slice none 0 0))
  pq : ∀ (j q : Nat), Q[j]? = some q → Blk w' q 4 (bolL fn (F j))
  nd : Q.Nodup
  bg : w.heap.size ≤ gp
  bq : ∀ q ∈ Q, w.heap.size ≤ q
theorem PtB.mild {w0 w : World} {go gl gp N fn : Nat} {f g : Nat → Int} {Q : List Nat} {F : Nat → Nat → Bool} {w1 : World} (h : PtB w0 w go gl gp N fn f g Q F w1) : Mild w0 w w1 := ⟨h.mblk, fun r l hr => (h.mreg r l hr).1, h.mlow⟩
theorem PtB.start {w0 w w1 : World} {go gl gp N fn : Nat} {f g : Nat → Int} (F : Nat → Nat → Bool) (hb : Below w.heap.size w w1) (h1 : Blk w1 go 3 (intL 196608 f)) (h2 : Blk w1 gl 3 (intL N g)) (hp : Blk w1 gp 34 (List.replicate N (.slice none 0 0))) (hg : w.heap.size ≤ gp) : PtB w0 w go gl gp N fn f g [] F w1 :=
  ⟨fun _ _ _ _ h => h.below hb, fun r l hr => ⟨hr.below hb, fun q hq => by cases hq⟩, fun h => h.trans (hb.mono h.size), hb.size, h1, h2, Nat.zero_le _, hp, fun j q hq => by simp at hq, List.nodup_nil, hg, fun q hq => by cases hq⟩
theorem PtB.below {w0 w : World} {go gl gp N fn : Nat} {f g : Nat → Int} {Q : List Nat} {F : Nat → Nat → Bool} {w1 w2 : World} (h : PtB w0 w go gl gp N fn f g Q F w1) (hb : Below w1.heap.size w1 w2) : PtB w0 w go gl gp N fn f g Q F w2 :=
  ⟨fun g t ds ht hg => (h.mblk g t ds ht hg).below hb, fun r l hr => ⟨(h.mreg r l hr).1.below hb, fun q hq ht => (h.mreg r l hr).2 q hq (ht.back (h.mreg r l hr).1 (hb.block r (h.mreg r l hr).1.lt))⟩, fun hl => (h.mlow hl).trans (hb.mono (h.mlow hl).size), Nat.le_trans h.msz hb.size, h.ow.below hb, h.le.below hb, h.qn, h.pg.below hb, fun j q hq => (h.pq j q hq).below hb, h.nd, h.bg, h.bq⟩
/-- A register's table is made. -/
theorem PtB.memb {w0 w : World} {go gl gp N fn : Nat} {f g : Nat → Int} {Q : List Nat} {F : Nat → Nat → Bool} {w1 w2 : World} {r : Nat} {l : List (Int × Int)} (h : PtB w0 w go gl gp N fn f g Q F w1) (hr : RegOk w r l) (hw : w0.heap.size ≤ r) (hr' : RegOk w2 r l) (hu : Upd r w1 w2) (ht : ∀ q, Tbl w2 r q → Tbl w1 r q ∨ w1.heap.size ≤ q) : PtB w0 w go gl gp N fn f g Q F w2 := by
  have hr1 := (h.mreg r l hr).1
  obtain ⟨_, _, _, _, b1, _⟩ := hr1.out
  refine ⟨fun g t ds ht hg => (h.mblk g t ds ht hg).updT b1 ht hu, fun r' l' hp => ⟨hr1.memb hr' hu (h.mreg r' l' hp).1, fun q hq hT => ?_⟩, fun hl => ?_, Nat.le_trans h.msz hu.size, h.ow.updT b1 (by decide) hu, h.le.updT b1 (by decide) hu, h.qn, h.pg.updT b1 (by decide) hu, fun j q hq => (h.pq j q hq).updT b1 (by decide) hu, h.nd, h.bg, h.bq⟩
  · have hp1 := h.mreg r' l' hp
    by_cases e : r' = r
    · subst e
      rcases ht q hT with h5 | h5
      · exact hp1.2 q hq h5
      · obtain ⟨j, hj⟩ := List.mem_iff_getElem?.1 hq
        have := (h.pq j q hj).lt
        omega
    · exact hp1.2 q hq (hT.back hp1.1 (hu.block r' hp1.1.lt e))
  · have h1 := h.mlow hl
    exact h1.trans ⟨hu.os, hu.tape, hu.output, hu.size, fun k hk => hu.block k (by have := h1.size; omega) (by omega)⟩
theorem rep_set {N b : Nat} (L : List Value) (hL : L.length = b) (hb : b < N) (z v : Value) : (L ++ List.replicate (N - b) z).set b v = L ++ [v] ++ List.replicate (N - (b + 1)) z := by
  subst hL
  rw [List.set_append_right _ _ (Nat.le_refl _), Nat.sub_self]
  obtain ⟨m, hm⟩ : ∃ m, N - L.length = m + 1 := ⟨N - L.length - 1, by omega⟩
  rw [hm, show N - (L.length + 1) = m by omega, List.replicate_succ, List.set_cons_zero, List.append_assoc]
  rfl
/-- A new row. -/
theorem PtB.row {w0 w : World} {go gl gp N fn b : Nat} {f g : Nat → Int} {Q : List Nat} {F : Nat → Nat → Bool} {w1 : World} (h : PtB w0 w go gl gp N fn f g Q F w1) (hbq : Q.length = b) (hlt : b < N) (hF : ∀ i, i < fn → F b i = false) {q : Nat} (hq : w1.heap.size = q) :
    PtB w0 w go gl gp N fn f g (Q ++ [q]) F ((w1.alloc (.cells (bolL fn fun _ => false).toArray 4)).setCell ⟨gp, b, none⟩ (.slice (some ⟨q, 0, none⟩) fn fn)) := by
  subst hbq
  have hn1 := nbel w1 (.cells (bolL fn fun _ => false).toArray 4)
  have h1 := h.below hn1
  have hb := Blk.new w1 (bolL fn fun _ => false) 4
  rw [hq] at hb
  have hlq : ∀ p ∈ Q, p < q := fun p hp => by
    obtain ⟨j, hj⟩ := List.mem_iff_getElem?.1 hp
    rw [← hq]
    exact (h.pq j p hj).lt
  have hsz : w.heap.size ≤ q := by rw [← hq]; exact h.msz
  have hnq : ∀ r l, RegOk w r l → ¬ Tbl (w1.alloc (.cells (bolL fn fun _ => false).toArray 4)) r q := fun r l hr ht => by
    have h5 := (h.mreg r l hr).1
    have := h5.tblLt (ht.back h5 (hn1.block r h5.lt))
    omega
  generalize w1.alloc (.cells (bolL fn fun _ => false).toArray 4) = w2 at h1 hb hnq ⊢
  have hu : Upd gp w2 (w2.setCell ⟨gp, Q.length, none⟩ (.slice (some ⟨q, 0, none⟩) fn fn)) := (Upd.refl gp w2).setCell rfl _
  refine ⟨fun g' t ds ht hg => (h1.mblk g' t ds ht hg).upd hu (fun e => ?_), fun r l hr => ⟨(h1.mreg r l hr).1.away h1.pg (by decide) (by decide) (.inl (by decide)) hu, fun p hp hT => ?_⟩, fun hl => ?_, Nat.le_trans h1.msz hu.size, h1.ow.updT h1.pg (by decide) hu, h1.le.updT h1.pg (by decide) hu, by simp; omega, ?_, fun j p hp => ?_, ?_, h.bg, fun p hp => ?_⟩
  · have := hg.lt
    have := h.bg
    omega
  · have hrr := (h1.mreg r l hr).1
    have hT2 : Tbl w2 r p := hT.back hrr (hu.block r hrr.lt (fun e => by
      obtain ⟨_, _, _, _, b1, _⟩ := hrr.out
      subst e
      exact absurd (b1.inj2 h1.pg).1 (by decide)))
    rcases List.mem_append.1 hp with hp | hp
    · exact (h1.mreg r l hr).2 p hp hT2
    · simp at hp
      subst hp
      exact hnq r l hr hT2
  · have h5 := h1.mlow hl
    have h6 := hl.size
    exact h5.trans (hu.below (by have := h.bg; omega) h5.size)
  · have h5 := h1.pg.set Q.length (.slice (some ⟨q, 0, none⟩) fn fn)
    rw [rep_set (Q.map (slV fn)) (by simp) hlt] at h5
    rw [List.map_append, List.length_append]
    exact h5
  · rw [List.getElem?_append] at hp
    split at hp
    · exact (h1.pq j p hp).updT h1.pg (by decide) hu
    · rename_i hj
      have hjj : j = Q.length := by
        have := (List.getElem?_eq_some_iff.1 hp).1
        simp at this
        omega
      subst hjj
      simp at hp
      subst hp
      rw [bolL_ext (f := F Q.length) (g := fun _ => false) hF]
      exact hb.updT h1.pg (by decide) hu
  · rw [List.nodup_append]
    refine ⟨h.nd, by simp, fun a ha c hc e => ?_⟩
    simp at hc
    have := hlq a ha
    omega
  · rcases List.mem_append.1 hp with hp | hp
    · exact h.bq p hp
    · simp at hp
      omega
theorem PtB.put {w0 w : World} {go gl gp N fn : Nat} {f g : Nat → Int} {Q : List Nat} {F : Nat → Nat → Bool} {w1 : World} (h : PtB w0 w go gl gp N fn f g Q F w1) {b q : Nat} (hb : Q[b]? = some q) {k : Nat} (hk : k < fn) (v : Bool) :
    PtB w0 w go gl gp N fn f g Q (fun j i => if j = b ∧ i = k then v else F j i) (w1.setCell ⟨q, k, none⟩ (.bool v)) := by
  have hq := h.pq b q hb
  have hqm := List.mem_of_getElem? hb
  have hu : Upd q w1 (w1.setCell ⟨q, k, none⟩ (.bool v)) := (Upd.refl q w1).setCell rfl _
  refine ⟨fun g' t ds ht hg => (h.mblk g' t ds ht hg).upd hu (fun e => ?_), fun r l hr => ⟨(h.mreg r l hr).1.away hq (by decide) (by decide) (.inr ((h.mreg r l hr).2 q hqm)) hu, fun p hp hT => ?_⟩, fun hl => ?_, Nat.le_trans h.msz hu.size, h.ow.updT hq (by decide) hu, h.le.updT hq (by decide) hu, h.qn, h.pg.updT hq (by decide) hu, fun j p hp => ?_, h.nd, h.bg, h.bq⟩
  · have := hg.lt
    have := h.bq q hqm
    omega
  · have hrr := h.mreg r l hr
    exact hrr.2 p hp (hT.back hrr.1 (hu.block r hrr.1.lt (fun e => by
      obtain ⟨_, _, _, _, b1, _⟩ := hrr.1.out
      subst e
      exact absurd (b1.inj2 hq).1 (by decide))))
  · have h5 := h.mlow hl
    have h6 := hl.size
    exact h5.trans (hu.below (by have := h.bq q hqm; omega) h5.size)
  · by_cases e : j = b
    · subst e
      rw [hb] at hp
      cases hp
      rw [bolL_ext (g := fun i => if i = k then v else F j i) (fun i hi => by
        by_cases e2 : i = k
        · rw [if_pos ⟨rfl, e2⟩, if_pos e2]
        · rw [if_neg (fun h => e2 h.2), if_neg e2]), ← bolL_set (F j) hk]
      exact hq.set k _
    · have hne : p ≠ q := fun e2 => by
        subst e2
        exact e (nodup_at h.nd hp hb)
      rw [bolL_ext (g := F j) (fun i hi => by rw [if_neg (fun h => e h.1)])]
      exact (h.pq j p hp).upd hu hne
theorem PtB.ext {w0 w : World} {go gl gp N fn : Nat} {f g : Nat → Int} {Q : List Nat} {F F' : Nat → Nat → Bool} {w1 : World} (h : PtB w0 w go gl gp N fn f g Q F w1) (he : ∀ j i, j < Q.length → i < fn → F j i = F' j i) : PtB w0 w go gl gp N fn f g Q F' w1 :=
  ⟨h.mblk, h.mreg, h.mlow, h.msz, h.ow, h.le, h.qn, h.pg, fun j q hq => by
    rw [← bolL_ext (fun i hi => he j i (List.getElem?_eq_some_iff.1 hq).1 hi)]
    exact h.pq j q hq, h.nd, h.bg, h.bq⟩
/-- A row read. -/
theorem PtB.rowAt {w0 w : World} {go gl gp N fn : Nat} {f g : Nat → Int} {Q : List Nat} {F : Nat → Nat → Bool} {w1 : World} (h : PtB w0 w go gl gp N fn f g Q F w1) {b q : Nat} (hb : Q[b]? = some q) : w1.cell? ⟨gp, b, none⟩ = some (.slice (some ⟨q, 0, none⟩) fn fn) := by
  rw [h.pg.cell, List.getElem?_append_left (by rw [List.length_map]; exact (List.getElem?_eq_some_iff.1 hb).1), List.getElem?_map, hb]
  rfl
end Go.Proofs.Qxb6500884a
