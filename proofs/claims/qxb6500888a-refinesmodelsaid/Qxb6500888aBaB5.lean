/- The barrier: segments, get, put. -/
import Derived.Test.Qxb6500888aBaB4
namespace Go.Proofs.Qxb6500888a
open Go.RowKit
set_option linter.unusedSimpArgs false
set_option linter.unusedVariables false

theorem sgF_used (c : Nat → Nat) (u v : Nat) (nx : Option Nat) : (fnC 34 (sgF c u nx)).set 32 (.int .i64 (v : Int)) = fnC 34 (sgF c v nx) := by
  rw [fnC_set _ (by decide)]
  apply fnC_congr
  intro i hi
  by_cases e : i = 32
  · subst e; rw [fup_self]; rfl
  · rw [fup_ne _ _ e]; unfold sgF; rw [if_neg e, if_neg e]
theorem sgF_next (c : Nat → Nat) (u : Nat) (nx ny : Option Nat) : (fnC 34 (sgF c u nx)).set 33 (ptrO ny) = fnC 34 (sgF c u ny) := by
  rw [fnC_set _ (by decide)]
  apply fnC_congr
  intro i hi
  by_cases e : i = 33
  · subst e; rw [fup_self]; rfl
  · rw [fup_ne _ _ e]
    unfold sgF
    by_cases h : i < 32
    · rw [if_pos h, if_pos h]
    · rw [if_neg h, if_pos (by omega), if_neg h, if_pos (by omega)]
theorem sgF_ent (c : Nat → Nat) (u : Nat) (nx : Option Nat) {k : Nat} (hk : k < 32) (x : Nat) : (fnC 34 (sgF c u nx)).set k (.int .u64 (x : Int)) = fnC 34 (sgF (fup c k x) u nx) := by
  rw [fnC_set _ (by omega)]
  apply fnC_congr
  intro i hi
  by_cases e : i = k
  · subst e; rw [fup_self]; unfold sgF; rw [if_pos hk, fup_self]
  · rw [fup_ne _ _ e]
    unfold sgF
    rw [fup_ne _ _ e]
theorem sg_used {w : World} {s : Nat} {c : Nat → Nat} {u : Nat} {nx : Option Nat} (h : Blk w s 152 (fnC 34 (sgF c u nx))) : w.cell? ⟨s, 32, none⟩ = some (.int .i64 (u : Int)) := by rw [h.cell, fnC_get _ (by decide)]; rfl
theorem sg_next {w : World} {s : Nat} {c : Nat → Nat} {u : Nat} {nx : Option Nat} (h : Blk w s 152 (fnC 34 (sgF c u nx))) : w.cell? ⟨s, 33, none⟩ = some (ptrO nx) := by rw [h.cell, fnC_get _ (by decide)]; rfl
theorem sg_ent {w : World} {s : Nat} {c : Nat → Nat} {u : Nat} {nx : Option Nat} (h : Blk w s 152 (fnC 34 (sgF c u nx))) {k : Nat} (hk : k < 32) : w.cell? ⟨s, k, none⟩ = some (.int .u64 (c k : Int)) := by rw [h.cell, fnC_get _ (by omega)]; unfold sgF; rw [if_pos hk]
/-- A chain whose last segment is not full. -/
structure Opn (w : World) (ids : List Nat) (lg : List (Nat × Nat)) (pre : List Nat) (s u : Nat) (c : Nat → Nat) : Prop where
  eq : ids = pre ++ [s]
  len : lg.length = 16 * pre.length + u
  lt : u < 16
  sg : ∀ i t, pre[i]? = some t → ∃ d, Blk w t 152 (fnC 34 (sgF d 16 ids[i + 1]?)) ∧ ∀ j p, j < 16 → lg[16 * i + j]? = some p → d (2 * j) = p.1 ∧ d (2 * j + 1) = p.2
  bl : Blk w s 152 (fnC 34 (sgF c u none))
  en : ∀ j p, j < u → lg[16 * pre.length + j]? = some p → c (2 * j) = p.1 ∧ c (2 * j + 1) = p.2
theorem Chn.opn {w : World} {ids : List Nat} {lg : List (Nat × Nat)} (h : Chn w ids lg) (hn : lg.length % 16 ≠ 0) : ∃ pre s c, Opn w ids lg pre s (lg.length % 16) c := by
  have hl := h.len
  have hne : ids ≠ [] := fun e => by rw [e] at hl; simp at hl; omega
  obtain ⟨pre, s, he⟩ : ∃ pre s, ids = pre ++ [s] := ⟨ids.dropLast, ids.getLast hne, (List.dropLast_concat_getLast hne).symm⟩
  have hpl : pre.length + 1 = (lg.length + 15) / 16 := by rw [← hl, he]; simp
  obtain ⟨c, h1, h2⟩ := h.sg pre.length s (by rw [he]; simp)
  have hnx : ids[pre.length + 1]? = none := List.getElem?_eq_none (by rw [he]; simp)
  rw [hnx, show min 16 (lg.length - 16 * pre.length) = lg.length % 16 by omega] at h1
  refine ⟨pre, s, c, he, by omega, by omega, fun i t ht => ?_, h1, fun j p hj hp => h2 j p (by omega) hp⟩
  have hi := (List.getElem?_eq_some_iff.1 ht).1
  obtain ⟨d, h3, h4⟩ := h.sg i t (by rw [he, List.getElem?_append_left hi]; exact ht)
  rw [show min 16 (lg.length - 16 * i) = 16 by omega] at h3
  exact ⟨d, h3, h4⟩
theorem Chn.full {w : World} {ids : List Nat} {lg : List (Nat × Nat)} (h : Chn w ids lg) (hn : lg.length % 16 = 0) : lg.length = 16 * ids.length ∧ ∀ i t, ids[i]? = some t → ∃ d, Blk w t 152 (fnC 34 (sgF d 16 ids[i + 1]?)) ∧ ∀ j p, j < 16 → lg[16 * i + j]? = some p → d (2 * j) = p.1 ∧ d (2 * j + 1) = p.2 := by
  have hl := h.len
  refine ⟨by omega, fun i t ht => ?_⟩
  have hi := (List.getElem?_eq_some_iff.1 ht).1
  obtain ⟨d, h3, h4⟩ := h.sg i t ht
  rw [show min 16 (lg.length - 16 * i) = 16 by omega] at h3
  exact ⟨d, h3, h4⟩
/-- One more entry. -/
theorem Opn.close {w w' : World} {ids : List Nat} {lg : List (Nat × Nat)} {pre : List Nat} {s u : Nat} {c : Nat → Nat} (h : Opn w ids lg pre s u c) (f o : Nat) (hb : Blk w' s 152 (fnC 34 (sgF (fup (fup c (u * 2) f) (u * 2 + 1) o) (u + 1) none))) (hk : ∀ t ∈ pre, w'.heap[t]? = w.heap[t]?) : Chn w' ids (lg ++ [(f, o)]) := by
  have hl := h.len
  have hu := h.lt
  refine ⟨by rw [h.eq]; simp; omega, fun i t ht => ?_⟩
  have hi := (List.getElem?_eq_some_iff.1 ht).1
  have hil : ids.length = pre.length + 1 := by rw [h.eq]; simp
  by_cases e : i < pre.length
  · have ht2 : pre[i]? = some t := by rw [h.eq, List.getElem?_append_left e] at ht; exact ht
    obtain ⟨d, h3, h4⟩ := h.sg i t ht2
    refine ⟨d, ?_, fun j p hj hp => h4 j p hj (by rw [List.getElem?_append_left (by omega)] at hp; exact hp)⟩
    rw [show min 16 ((lg ++ [(f, o)]).length - 16 * i) = 16 by simp; omega]
    exact h3.of (hk t (List.mem_of_getElem? ht2))
  · obtain rfl : i = pre.length := by omega
    have hts : t = s := by
      rw [h.eq] at ht
      simp at ht
      exact ht.symm
    subst hts
    have hnx : ids[pre.length + 1]? = none := List.getElem?_eq_none (by omega)
    refine ⟨_, by rw [hnx, show min 16 ((lg ++ [(f, o)]).length - 16 * pre.length) = u + 1 by simp; omega]; exact hb, fun j p hj hp => ?_⟩
    by_cases ej : j < u
    · rw [List.getElem?_append_left (by omega)] at hp
      have := h.en j p ej hp
      rw [fup_ne _ _ (by omega), fup_ne _ _ (by omega), fup_ne _ _ (by omega), fup_ne _ _ (by omega)]
      exact this
    · by_cases ej2 : j = u
      · subst ej2
        rw [List.getElem?_append_right (by omega), show 16 * pre.length + j - lg.length = 0 by omega] at hp
        simp at hp
        subst hp
        rw [show 2 * j = j * 2 by omega, fup_self, fup_ne _ _ (by omega), fup_self]
        exact ⟨rfl, rfl⟩
      · rw [List.getElem?_eq_none (by simp; omega)] at hp
        cases hp
theorem allS_len (T : BL) : (allS T).length = (T.sg 0).length + (T.sg 1).length + (T.sg 2).length + (T.sg 3).length + T.fs.length := by
  unfold allS
  simp
  omega
/-- How many segments the logs need. -/
def needN (B : BS) : Nat := ((B.logs 0).length + 15) / 16 + ((B.logs 1).length + 15) / 16 + ((B.logs 2).length + 15) / 16 + ((B.logs 3).length + 15) / 16
section
variable {x : Nat} {X : Nat → Bool} {w w' : World} {ρ ρ' : Rl} {L : GL} {T T' : BL} {G : GS} {B B' : BS}
theorem BMx.need (h : BM w ρ L T G B) : B.made = needN B + T.fs.length := by
  have h1 := h.md (by decide)
  rw [allS_len, (h.sg 0 (by decide) (by decide)).len, (h.sg 1 (by decide) (by decide)).len, (h.sg 2 (by decide) (by decide)).len, (h.sg 3 (by decide) (by decide)).len] at h1
  exact h1
/-- The barrier's block and segments are written. -/
theorem BMx.segs {y : Nat} (h : BMx x w ρ L T G B) (hf : Fr (fun c => c == 12 || c == 14) ρ w ρ' w') (hb : Blk w' T.bB 137 (fnC 285 (bF L T' B'))) (hT : T'.bB = T.bB ∧ T'.fv = T.fv ∧ T'.lv = T.lv ∧ T'.sv = T.sv) (hB : B'.fresh = B.fresh ∧ B'.last = B.last ∧ B'.roots = B.roots)
    (hs : ∀ m, m < 4 → m ≠ y → Chn w' (T'.sg m) (B'.logs m)) (hfs : Fre w' T'.fs) (hn : (allS T').Nodup) (hr : ∀ s ∈ allS T', ρ' s = 14) (hm : 4 ≤ y → B'.made = (allS T').length) (hx5 : x ≠ 5) : BMx y w' ρ' L T' G B' ∧ Fr bX ρ w ρ' w' := by
  obtain ⟨t1, t2, t3, t4⟩ := hT
  obtain ⟨b1, b2, b3⟩ := hB
  have hg : GM w' ρ' L G := (GMh.but h.gm hf).full (fun c hc => by
    have := of_decide_eq_true hc
    show (c == 12 || c == 14) = false
    simp
    omega)
  refine ⟨⟨hg, by rw [t1]; exact hb, by rw [t1, hf.old _ h.bb.lt]; exact h.rb, fun m hm => by rw [t2, b1]; exact (h.fr m hm).fr hf (by show (16 + m == 12 || 16 + m == 14) = false; simp; omega), by rw [t3, b2]; exact h.lr.fr hf rfl, fun _ => by rw [t4]; exact (h.sp hx5).fr hf rfl, fun _ => by rw [t3, t4]; exact h.ls hx5, hs, hfs, hn, hr, by rw [b3]; exact h.rl, hm⟩, hf.mono (fun c hc => ?_)⟩
  simp at hc
  exact decide_eq_true (by omega)
theorem BMx.pcell (h : BMx x w ρ L T G B) : w.cell? ⟨T.bB, 279, none⟩ = some (ptrO T.fs.head?) ∧ w.cell? ⟨T.bB, 280, none⟩ = some (.int .i64 (B.made : Int)) := by
  refine ⟨?_, ?_⟩
  · rw [h.ecell (by decide) (by decide)]; rfl
  · rw [h.ecell (by decide) (by decide)]; rfl
theorem BMx.ne_s (h : BMx x w ρ L T G B) {s : Nat} (hs : ρ s = 14) : T.bB ≠ s := fun e => by
  have := h.rb
  rw [e, hs] at this
  cases this
theorem bF_free (L : GL) (T : BL) (B : BS) (f : List Nat) : (fnC 285 (bF L T B)).set 279 (ptrO f.head?) = fnC 285 (bF L { T with fs := f } B) := by
  refine bF_setE L (by decide) (by decide) rfl (fun m j _ _ => rfl) (fun i h1 h2 h3 => ?_)
  unfold eF
  rcases (by omega : i = 280 ∨ i = 281 ∨ i = 282 ∨ i = 283 ∨ i = 284) with rfl | rfl | rfl | rfl | rfl <;> rfl
theorem bF_made (L : GL) (T : BL) (B : BS) (n : Nat) : (fnC 285 (bF L T B)).set 280 (.int .i64 (n : Int)) = fnC 285 (bF L T { B with made := n }) := by
  refine bF_setE L (by decide) (by decide) rfl (fun m j _ _ => rfl) (fun i h1 h2 h3 => ?_)
  unfold eF
  rcases (by omega : i = 279 ∨ i = 281 ∨ i = 282 ∨ i = 283 ∨ i = 284) with rfl | rfl | rfl | rfl | rfl <;> rfl
/-- What get leaves: a segment of its own, empty. -/
structure GetP (w : World) (ρ : Rl) (L : GL) (T : BL) (G : GS) (B : BS) (s : Nat) (ρ' : Rl) (w' : World) : Prop where
  bm : ∀ y, y < 4 → BMx y w' ρ' L { T with fs := T.fs.tail } G { B with made := if T.fs = [] then B.made + 1 else B.made }
  sb : ∃ c, Blk w' s 152 (fnC 34 (sgF c 0 none))
  ni : s ∉ allS { T with fs := T.fs.tail }
  ro : ρ' s = 14
  fr : Fr bX ρ w ρ' w'
  kp : ∀ t ∈ allS { T with fs := T.fs.tail }, w'.heap[t]? = w.heap[t]?
set_option maxRecDepth 1000000 in
set_option maxHeartbeats 2000000 in
theorem get_walk (h : BM w ρ L T G B) (hmd : B.made ≤ 1000000000) : Calls Try.prog 98 #[.pointer (some ⟨T.bB, 279, none⟩)] w fun e w' => ∃ s ρ', e = .returned (.pointer (some ⟨s, 0, none⟩)) ∧ GetP w ρ L T G B s ρ' w' := by
  have c1 := h.pcell.1
  have c2 := h.pcell.2
  have HH := hid h
  cases hfs : T.fs with
  | nil =>
    rw [hfs] at c1
    have c1' : w.cell? ⟨T.bB, 279, none⟩ = some (.pointer none) := c1
    have f2 := h.bb.frozen 280
    have i1 : (B.made : Int) ≤ 1000000000 := by omega
    obtain ⟨n, hn⟩ : ∃ n, B.made = n := ⟨_, rfl⟩
    rw [hn] at c2 i1
    have Hn := hid (And.intro hn hfs)
    clear h c1 hn hmd hfs
    go_enter Try.func98, Try.ntmps98
    go_upto_region 4 with fail
    obtain ⟨w1, hw1⟩ : ∃ w1, w.setCell ⟨T.bB, 280, none⟩ (.int .i64 ((n : Int) + 1)) = w1 := ⟨_, rfl⟩
    have HU : Hid (Upd T.bB w w1 ∧ Blk w1 T.bB 137 (fnC 285 (bF L T { B with made := n + 1 }))) := hid (by
      rw [← hw1]
      refine ⟨upd1 _ _ _ _, ?_⟩
      have := HH.out.bb.set 280 (.int .i64 ((n + 1 : Nat) : Int))
      rw [bF_made] at this
      exact this)
    (try simp only [hw1])
    clear hw1 c1' c2 f2
    obtain ⟨g, hg⟩ : ∃ g, w1.heap.size = g := ⟨_, rfl⟩
    have HR : Hid (GetP w ρ L T G B g (fup ρ g 14) (w1.alloc (.cells (fnC 34 (sgF (fun _ => 0) 0 none)).toArray 152))) := hid (by
      have hlt := HH.out.bb.lt
      have hs := HU.out.1.size
      have hf1 : Fr (fun c => c == 12 || c == 14) ρ w ρ w1 := Fr.upd HU.out.1 (by show (ρ T.bB == 12 || ρ T.bB == 14) = true; rw [HH.out.rb]; rfl)
      have hf2 : Fr (fun c => c == 12 || c == 14) ρ w1 (fup ρ g 14) (w1.alloc (.cells (fnC 34 (sgF (fun _ => 0) 0 none)).toArray 152)) := by rw [← hg]; exact Fr.alloc _ _ _ _ _
      have hf := hf1.trans hf2
      have hk : ∀ s ∈ allS T, (w1.alloc (.cells (fnC 34 (sgF (fun _ => 0) 0 none)).toArray 152)).heap[s]? = w.heap[s]? := fun s hs' => by
        have h1 := HH.out.lts hs'
        rw [Below.heap_alloc _ _ _ (by omega)]
        exact HU.out.1.block s h1 (fun e => HH.out.ne_s (HH.out.rs s hs') e.symm)
      have hge : g ∉ allS T := fun e => by have := HH.out.lts e; omega
      have hT : ({ T with fs := T.fs.tail } : BL) = T := by rw [Hn.out.2]; rw [show ([] : List Nat).tail = T.fs by rw [Hn.out.2]; rfl]
      refine ⟨fun y hy => ?_, ⟨fun _ => 0, by rw [← hg]; exact Blk.new w1 (fnC 34 (sgF (fun _ => 0) 0 none)) 152⟩, by rw [hT]; exact hge, fup_self _ _ _, ?_, by rw [hT]; exact hk⟩
      · rw [hT, if_pos Hn.out.2, Hn.out.1]
        exact (HH.out.segs (y := y) hf (HU.out.2.alloc _) ⟨rfl, rfl, rfl, rfl⟩ ⟨rfl, rfl, rfl⟩ (fun m hm hne => (HH.out.sg m hm (by omega)).fr (fun s hs' => hk s (allS_m hm hs'))) (HH.out.fs.fr (fun s hs' => hk s (allS_f hs'))) HH.out.nd (fun s hs' => by rw [fup_ne _ _ (fun e => hge (by rw [← e]; exact hs'))]; exact HH.out.rs s hs') (fun e => by omega) (by decide)).1
      · exact hf.mono (fun c hc => by simp at hc; exact decide_eq_true (by omega)))
    have hfn : (fnC 34 (sgF (fun _ => 0) 0 none)).toArray = #[.int .u64 0, .int .u64 0, .int .u64 0, .int .u64 0, .int .u64 0, .int .u64 0, .int .u64 0, .int .u64 0, .int .u64 0, .int .u64 0, .int .u64 0, .int .u64 0, .int .u64 0, .int .u64 0, .int .u64 0, .int .u64 0, .int .u64 0, .int .u64 0, .int .u64 0, .int .u64 0, .int .u64 0, .int .u64 0, .int .u64 0, .int .u64 0, .int .u64 0, .int .u64 0, .int .u64 0, .int .u64 0, .int .u64 0, .int .u64 0, .int .u64 0, .int .u64 0, .int .i64 0, .pointer none] := rfl
    rw [hfn] at HR
    clear hfn HU
    go_wp2
    exact bodyPost_ret (v := .pointer (some ⟨g, 0, none⟩)) (by simp [results, Try.results98, go_sem]) rfl ⟨g, rfl, fup ρ g 14, HR.out⟩
  | cons s r =>
    rw [hfs] at c1
    have c1' : w.cell? ⟨T.bB, 279, none⟩ = some (.pointer (some ⟨s, 0, none⟩)) := c1
    have f1 := h.bb.frozen 279
    obtain ⟨c, hb⟩ := h.fs 0 s (by rw [hfs]; rfl)
    have hnx : T.fs[0 + 1]? = r.head? := by rw [hfs]; cases r <;> rfl
    rw [hnx] at hb
    have c3 := sg_next hb
    have f3 := hb.frozen 33
    have hrs := h.rs s (allS_f (by rw [hfs]; simp))
    have hne := h.ne_s hrs
    have hnd := h.nd
    have hsr : s ∉ allS { T with fs := r } := fun e => by
      unfold allS at hnd e
      rw [hfs] at hnd
      dsimp only at e
      simp only [List.nodup_append, List.nodup_cons, List.mem_append, List.mem_cons] at hnd e
      rcases e with e | e | e | e | e
      · exact hnd.2.2 s e s (.inr (.inr (.inr (.inl rfl)))) rfl
      · exact hnd.2.1.2.2 s e s (.inr (.inr (.inl rfl))) rfl
      · exact hnd.2.1.2.1.2.2 s e s (.inr (.inl rfl)) rfl
      · exact hnd.2.1.2.1.2.1.2.2 s e s (.inl rfl) rfl
      · exact hnd.2.1.2.1.2.1.2.1.1 e
    have hnr : (allS { T with fs := r }).Nodup := by
      refine hnd.sublist ?_
      unfold allS
      rw [hfs]
      exact (List.Sublist.refl _).append ((List.Sublist.refl _).append ((List.Sublist.refl _).append ((List.Sublist.refl _).append (List.sublist_cons_self s r))))
    have HR : Hid (GetP w ρ L T G B s ρ ((w.setCell ⟨T.bB, 279, none⟩ (ptrO r.head?)).setCell ⟨s, 33, none⟩ (.pointer none))) := hid (by
      have hf1 : Fr (fun c => c == 12 || c == 14) ρ w ρ (w.setCell ⟨T.bB, 279, none⟩ (ptrO r.head?)) := Fr.set _ (by show (ρ T.bB == 12 || ρ T.bB == 14) = true; rw [h.rb]; rfl)
      have hf2 : Fr (fun c => c == 12 || c == 14) ρ (w.setCell ⟨T.bB, 279, none⟩ (ptrO r.head?)) ρ ((w.setCell ⟨T.bB, 279, none⟩ (ptrO r.head?)).setCell ⟨s, 33, none⟩ (.pointer none)) := Fr.set _ (by show (ρ s == 12 || ρ s == 14) = true; rw [hrs]; rfl)
      have hf := hf1.trans hf2
      have hk : ∀ t ∈ allS { T with fs := r }, ((w.setCell ⟨T.bB, 279, none⟩ (ptrO r.head?)).setCell ⟨s, 33, none⟩ (.pointer none)).heap[t]? = w.heap[t]? := fun t ht => by
        have htT : t ∈ allS T := by
          unfold allS at ht ⊢
          rw [hfs]
          simp only [List.mem_append, List.mem_cons] at ht ⊢
          rcases ht with e | e | e | e | e
          · exact .inl e
          · exact .inr (.inl e)
          · exact .inr (.inr (.inl e))
          · exact .inr (.inr (.inr (.inl e)))
          · exact .inr (.inr (.inr (.inr (.inr e))))
        rw [Below.heap_setCell _ _ _ _ (fun e => hsr (by rw [show s = t from e.symm]; exact ht)), Below.heap_setCell _ _ _ _ (fun e => h.ne_s (h.rs t htT) (show t = T.bB from e).symm)]
      have hbb : Blk ((w.setCell ⟨T.bB, 279, none⟩ (ptrO r.head?)).setCell ⟨s, 33, none⟩ (.pointer none)) T.bB 137 (fnC 285 (bF L { T with fs := r } B)) := by
        have := (h.bb.set 279 (ptrO r.head?)).setOther (p := ⟨s, 33, none⟩) (fun e => hne e.symm) (.pointer none)
        rw [bF_free] at this
        exact this
      have hT : ({ T with fs := T.fs.tail } : BL) = { T with fs := r } := by rw [hfs]; rfl
      refine ⟨fun y hy => ?_, ⟨c, ?_⟩, by rw [hT]; exact hsr, hrs, ?_, by rw [hT]; exact hk⟩
      · rw [hT, if_neg (by rw [hfs]; simp)]
        refine (h.segs (y := y) hf hbb ⟨rfl, rfl, rfl, rfl⟩ ⟨rfl, rfl, rfl⟩ (fun m hm hne => (h.sg m hm (by omega)).fr (fun t ht => hk t (allS_m (T := { T with fs := r }) hm ht))) ?_ hnr (fun t ht => ?_) (fun e => by omega) (by decide)).1
        · refine Fre.fr (w := w) (fun i t ht => ?_) (fun t ht => hk t (allS_f (T := { T with fs := r }) ht))
          have := h.fs (i + 1) t (by rw [hfs]; simpa using ht)
          rw [hfs] at this
          simpa using this
        · refine h.rs t ?_
          unfold allS at ht ⊢
          rw [hfs]
          simp only [List.mem_append, List.mem_cons] at ht ⊢
          rcases ht with e | e | e | e | e
          · exact .inl e
          · exact .inr (.inl e)
          · exact .inr (.inr (.inl e))
          · exact .inr (.inr (.inr (.inl e)))
          · exact .inr (.inr (.inr (.inr (.inr e))))
      · have := (hb.setOther (p := ⟨T.bB, 279, none⟩) hne (ptrO r.head?)).set 33 (ptrO none)
        rw [sgF_next] at this
        exact this
      · exact hf.mono (fun c hc => by simp at hc; exact decide_eq_true (by omega)))
    have c3' : (w.setCell ⟨T.bB, 279, none⟩ (ptrO r.head?)).cell? ⟨s, 33, none⟩ = some (ptrO r.head?) := by rw [World.cell?_of_block (Below.heap_setCell _ _ _ _ (fun e => hne (show s = T.bB from e).symm))]; exact c3
    clear h hfs hb hnx hrs hnd hsr hnr c1 hmd c2 HH
    have hne' : (T.bB == s) = false := by simp; exact hne
    have hne2 : (s == T.bB) = false := by simp; exact fun e => hne e.symm
    cases r with
    | nil =>
      have c3n : w.cell? ⟨s, 33, none⟩ = some (.pointer none) := c3
      have HR' : Hid (GetP w ρ L T G B s ρ ((w.setCell ⟨T.bB, 279, none⟩ (.pointer none)).setCell ⟨s, 33, none⟩ (.pointer none))) := HR
      clear c3 HR c3'
      go_enter Try.func98, Try.ntmps98
      go_wp2
      exact bodyPost_ret (v := .pointer (some ⟨s, 0, none⟩)) (by simp [results, Try.results98, go_sem]) rfl ⟨s, _, rfl, HR'.out⟩
    | cons t r =>
      have c3n : w.cell? ⟨s, 33, none⟩ = some (.pointer (some ⟨t, 0, none⟩)) := c3
      have HR' : Hid (GetP w ρ L T G B s ρ ((w.setCell ⟨T.bB, 279, none⟩ (.pointer (some ⟨t, 0, none⟩))).setCell ⟨s, 33, none⟩ (.pointer none))) := HR
      clear c3 HR c3'
      go_enter Try.func98, Try.ntmps98
      go_wp2
      exact bodyPost_ret (v := .pointer (some ⟨s, 0, none⟩)) (by simp [results, Try.results98, go_sem]) rfl ⟨s, _, rfl, HR'.out⟩
end
end Go.Proofs.Qxb6500888a
