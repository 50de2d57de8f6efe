/- The barrier: add. -/
import Derived.Test.Qxb6500888aBaB5
namespace Go.Proofs.Qxb6500888a
open Go.RowKit
set_option linter.unusedSimpArgs false
set_option linter.unusedVariables false

def addB (B : BS) (m : Nat) (e : Nat × Nat) : BS := { B with logs := fup B.logs m (B.logs m ++ [e]), made := if (B.logs m).length % 16 = 0 ∧ B.made = needN B then B.made + 1 else B.made }
theorem mF_sg (T : BL) (B : BS) (S : Nat → List Nat) {m j : Nat} (h : 2 ≤ j ∨ S m = T.sg m) : mF { T with sg := S } B m j = mF T B m j := by
  unfold mF
  rcases h with h | h
  · have h0 : ¬ j = 0 := by omega
    have h1 : ¬ j = 1 := by omega
    rw [if_neg h0, if_neg h1, if_neg h0, if_neg h1]
  · dsimp only
    rw [h]
theorem bF_sg (L : GL) (T : BL) (B : BS) {m : Nat} (hm : m < 4) (ids : List Nat) : ((fnC 285 (bF L T B)).set (3 + m * 69) (ptrO ids.head?)).set (3 + m * 69 + 1) (ptrO ids.getLast?) = fnC 285 (bF L { T with sg := fup T.sg m ids } B) := by
  rw [fnC_set _ (by omega), fnC_set _ (by omega)]
  apply bF_ext L T _ B
  · intro i hi
    rw [fup_ne _ _ (by omega), fup_ne _ _ (by omega)]
  · intro m' j hm' hj
    by_cases em : m' = m
    · subst em
      by_cases e1 : j = 1
      · subst e1
        rw [fup_self]
        show _ = ptrO (fup T.sg m' ids m').getLast?
        rw [fup_self]
      · rw [fup_ne _ _ (by omega)]
        by_cases e0 : j = 0
        · subst e0
          rw [show 3 + m' * 69 + 0 = 3 + m' * 69 from rfl, fup_self]
          show _ = ptrO (fup T.sg m' ids m').head?
          rw [fup_self]
        · rw [fup_ne _ _ (by omega), bF_m L T B hm hj]
          exact (mF_sg T B _ (.inl (by omega))).symm
    · rw [fup_ne _ _ (by omega), fup_ne _ _ (by omega), bF_m L T B hm' hj]
      exact (mF_sg T B _ (.inr (fup_ne _ _ em))).symm
  · intro i h3 h4
    rw [fup_ne _ _ (by omega), fup_ne _ _ (by omega), bF_e L T B h3]
    rfl
theorem bF_sg1 (L : GL) (T : BL) (B : BS) {m : Nat} (hm : m < 4) (ids : List Nat) (hh : ids.head? = (T.sg m).head?) : (fnC 285 (bF L T B)).set (3 + m * 69 + 1) (ptrO ids.getLast?) = fnC 285 (bF L { T with sg := fup T.sg m ids } B) := by
  rw [← bF_sg L T B hm ids]
  congr 1
  rw [fnC_set _ (by omega)]
  apply fnC_congr
  intro i hi
  by_cases e : i = 3 + m * 69
  · subst e
    rw [fup_self, hh]
    exact bF_m L T B (j := 0) hm (by decide)
  · rw [fup_ne _ _ e]
theorem bF_log (L : GL) (T : BL) (B : BS) {m : Nat} (hm : m < 4) (l : List (Nat × Nat)) : (fnC 285 (bF L T B)).set (3 + m * 69 + 2) (.int .i64 (l.length : Int)) = fnC 285 (bF L T { B with logs := fup B.logs m l }) := by
  refine bF_setM L hm (by decide) ?_ (fun m' j' hm' hj' hne => ?_) (fun i hi => rfl)
  · show Value.int .i64 ((fup B.logs m l m).length : Int) = _
    rw [fup_self]
  · unfold mF
    by_cases e2 : j' = 2
    · have em : m' ≠ m := by rcases hne with h | h
                             · exact h
                             · exact absurd e2 h
      dsimp only
      rw [fup_ne _ _ em]
    · by_cases e0 : j' = 0
      · rw [if_pos e0, if_pos e0]
      by_cases e1 : j' = 1
      · rw [if_neg e0, if_pos e1, if_neg e0, if_pos e1]
      rw [if_neg e0, if_neg e1, if_neg e2, if_neg e0, if_neg e1, if_neg e2]
section
variable {x : Nat} {w w' : World} {ρ ρ' : Rl} {L : GL} {T T' : BL} {G : GS} {B B' : BS}
theorem BMx.weak (h : BM w ρ L T G B) {y : Nat} (hy : y < 4) : BMx y w ρ L T G B := ⟨h.gm, h.bb, h.rb, h.fr, h.lr, fun _ => h.sp (by decide), fun _ => h.ls (by decide), fun m hm hne => h.sg m hm (by omega), h.fs, h.nd, h.rs, h.rl, fun e => by omega⟩
theorem Opn.fr {ids : List Nat} {lg : List (Nat × Nat)} {pre : List Nat} {s u : Nat} {c : Nat → Nat} (h : Opn w ids lg pre s u c) (hk : ∀ t ∈ ids, w'.heap[t]? = w.heap[t]?) : Opn w' ids lg pre s u c := by
  refine ⟨h.eq, h.len, h.lt, fun i t ht => ?_, h.bl.of (hk s (by rw [h.eq]; simp)), h.en⟩
  obtain ⟨d, h1, h2⟩ := h.sg i t ht
  exact ⟨d, h1.of (hk t (by rw [h.eq]; simp [List.mem_of_getElem? ht])), h2⟩
/-- The last segment has room. -/
structure AdM (w : World) (ρ : Rl) (L : GL) (T : BL) (G : GS) (B : BS) (m s u : Nat) (c : Nat → Nat) (pre : List Nat) (ρ1 : Rl) (T1 : BL) (w1 : World) : Prop where
  bm : BMx m w1 ρ1 L T1 G { B with made := (addB B m (0, 0)).made }
  op : Opn w1 (T1.sg m) (B.logs m) pre s u c
  tb : T1.bB = T.bB
  md : (addB B m (0, 0)).made = (allS T1).length
  fr : Fr bX ρ w ρ1 w1
theorem AdM.below {m s u : Nat} {c : Nat → Nat} {pre : List Nat} {ρ1 : Rl} {T1 : BL} {w1 : World} (hm : m < 4) (h : AdM w ρ L T G B m s u c pre ρ1 T1 w1) (hb : Below w1.heap.size w1 w') : AdM w ρ L T G B m s u c pre ρ1 T1 w' :=
  ⟨h.bm.below hb, h.op.fr (fun t ht => hb.block t (h.bm.lts (allS_m hm ht))), h.tb, h.md, h.fr.trans (Fr.below hb)⟩
/-- The entry is written. -/
theorem AdM.fin {m s u : Nat} {c : Nat → Nat} {pre : List Nat} {ρ1 : Rl} {T1 : BL} {w1 : World} (hm : m < 4) (h : AdM w ρ L T G B m s u c pre ρ1 T1 w1) (f o : Nat) :
    BM ((((w1.setCell ⟨s, u * 2, none⟩ (.int .u64 (f : Int))).setCell ⟨s, u * 2 + 1, none⟩ (.int .u64 (o : Int))).setCell ⟨s, 32, none⟩ (.int .i64 ((u + 1 : Nat) : Int))).setCell ⟨T.bB, 3 + m * 69 + 2, none⟩ (.int .i64 (((B.logs m).length + 1 : Nat) : Int))) ρ1 L T1 G (addB B m (f, o)) ∧
    Fr bX ρ w ρ1 ((((w1.setCell ⟨s, u * 2, none⟩ (.int .u64 (f : Int))).setCell ⟨s, u * 2 + 1, none⟩ (.int .u64 (o : Int))).setCell ⟨s, 32, none⟩ (.int .i64 ((u + 1 : Nat) : Int))).setCell ⟨T.bB, 3 + m * 69 + 2, none⟩ (.int .i64 (((B.logs m).length + 1 : Nat) : Int))) := by
  have hsm : s ∈ T1.sg m := by rw [h.op.eq]; simp
  have hs14 := h.bm.rs s (allS_m hm hsm)
  have hne : T.bB ≠ s := by rw [← h.tb]; exact h.bm.ne_s hs14
  have hu := h.op.lt
  obtain ⟨w2, hw2⟩ : ∃ w2, ((w1.setCell ⟨s, u * 2, none⟩ (.int .u64 (f : Int))).setCell ⟨s, u * 2 + 1, none⟩ (.int .u64 (o : Int))).setCell ⟨s, 32, none⟩ (.int .i64 ((u + 1 : Nat) : Int)) = w2 := ⟨_, rfl⟩
  have hU : Upd s w1 w2 := by rw [← hw2]; exact ((upd1 _ _ _ _).trans (upd1 _ _ _ _)).trans (upd1 _ _ _ _)
  have hB2 : Blk w2 s 152 (fnC 34 (sgF (fup (fup c (u * 2) f) (u * 2 + 1) o) (u + 1) none)) := by
    rw [← hw2]
    have := ((h.op.bl.set (u * 2) (.int .u64 (f : Int))).set (u * 2 + 1) (.int .u64 (o : Int))).set 32 (.int .i64 ((u + 1 : Nat) : Int))
    rw [sgF_ent _ _ _ (by omega), sgF_ent _ _ _ (by omega), sgF_used] at this
    exact this
  rw [hw2]
  clear hw2
  obtain ⟨w3, hw3⟩ : ∃ w3, w2.setCell ⟨T.bB, 3 + m * 69 + 2, none⟩ (.int .i64 (((B.logs m).length + 1 : Nat) : Int)) = w3 := ⟨_, rfl⟩
  have hU3 : Upd T.bB w2 w3 := by rw [← hw3]; exact upd1 _ _ _ _
  have hf : Fr (fun c => c == 12 || c == 14) ρ1 w1 ρ1 w3 := (Fr.upd hU (by show (ρ1 s == 12 || ρ1 s == 14) = true; rw [hs14]; rfl)).trans (Fr.upd hU3 (by show (ρ1 T.bB == 12 || ρ1 T.bB == 14) = true; rw [← h.tb, h.bm.rb]; rfl))
  have hk : ∀ t ∈ allS T1, t ≠ s → w3.heap[t]? = w1.heap[t]? := fun t ht hts => by
    have hlt := h.bm.lts ht
    rw [hU3.block t (by have := hU.size; omega) (fun e => h.bm.ne_s (h.bm.rs t ht) (by rw [h.tb]; exact e.symm)), hU.block t hlt hts]
  have hbb : Blk w3 T1.bB 137 (fnC 285 (bF L T1 { B with made := (addB B m (0, 0)).made, logs := fup B.logs m (B.logs m ++ [(f, o)]) })) := by
    have h1 := h.bm.bb.upd hU (by rw [h.tb]; exact hne)
    rw [h.tb] at h1 ⊢
    have h2 := h1.set (3 + m * 69 + 2) (.int .i64 (((B.logs m ++ [(f, o)]).length : Nat) : Int))
    rw [bF_log L T1 _ hm] at h2
    rw [← hw3, show (B.logs m).length + 1 = (B.logs m ++ [(f, o)]).length by simp]
    exact h2
  rw [hw3]
  have hnd := h.bm.nd
  have hin : ∀ m' t, m' < 4 → m' ≠ m → t ∈ T1.sg m' → t ≠ s := fun m' t hm' hmm ht e => by
    subst e
    unfold allS at hnd
    simp only [List.nodup_append, List.mem_append] at hnd
    rcases (by omega : m = 0 ∨ m = 1 ∨ m = 2 ∨ m = 3) with rfl | rfl | rfl | rfl <;> rcases (by omega : m' = 0 ∨ m' = 1 ∨ m' = 2 ∨ m' = 3) with rfl | rfl | rfl | rfl <;> first | exact absurd rfl hmm | skip
    · exact hnd.2.2 t hsm t (.inl ht) rfl
    · exact hnd.2.2 t hsm t (.inr (.inl ht)) rfl
    · exact hnd.2.2 t hsm t (.inr (.inr (.inl ht))) rfl
    · exact hnd.2.2 t ht t (.inl hsm) rfl
    · exact hnd.2.1.2.2 t hsm t (.inl ht) rfl
    · exact hnd.2.1.2.2 t hsm t (.inr (.inl ht)) rfl
    · exact hnd.2.2 t ht t (.inr (.inl hsm)) rfl
    · exact hnd.2.1.2.2 t ht t (.inl hsm) rfl
    · exact hnd.2.1.2.1.2.2 t hsm t (.inl ht) rfl
    · exact hnd.2.2 t ht t (.inr (.inr (.inl hsm))) rfl
    · exact hnd.2.1.2.2 t ht t (.inr (.inl hsm)) rfl
    · exact hnd.2.1.2.1.2.2 t ht t (.inl hsm) rfl
  have hif : ∀ t ∈ T1.fs, t ≠ s := fun t ht e => by
    subst e
    unfold allS at hnd
    simp only [List.nodup_append, List.mem_append] at hnd
    rcases (by omega : m = 0 ∨ m = 1 ∨ m = 2 ∨ m = 3) with rfl | rfl | rfl | rfl
    · exact hnd.2.2 t hsm t (.inr (.inr (.inr ht))) rfl
    · exact hnd.2.1.2.2 t hsm t (.inr (.inr ht)) rfl
    · exact hnd.2.1.2.1.2.2 t hsm t (.inr ht) rfl
    · exact hnd.2.1.2.1.2.1.2.2 t hsm t ht rfl
  have hip : ∀ t ∈ pre, t ≠ s := fun t ht e => by
    subst e
    have : (T1.sg m).Nodup := by
      refine hnd.sublist ?_
      unfold allS
      rcases (by omega : m = 0 ∨ m = 1 ∨ m = 2 ∨ m = 3) with rfl | rfl | rfl | rfl
      · exact List.sublist_append_left _ _
      · exact (List.sublist_append_left _ _).trans (List.sublist_append_right _ _)
      · exact ((List.sublist_append_left _ _).trans (List.sublist_append_right _ _)).trans (List.sublist_append_right _ _)
      · exact (((List.sublist_append_left _ _).trans (List.sublist_append_right _ _)).trans (List.sublist_append_right _ _)).trans (List.sublist_append_right _ _)
    rw [h.op.eq, List.nodup_append] at this
    exact this.2.2 t ht t (by simp) rfl
  have hB3 : Blk w3 s 152 (fnC 34 (sgF (fup (fup c (u * 2) f) (u * 2 + 1) o) (u + 1) none)) := hB2.upd hU3 (fun e => hne e.symm)
  have hch : Chn w3 (T1.sg m) (B.logs m ++ [(f, o)]) := h.op.close f o hB3 (fun t ht => hk t (allS_m hm (by rw [h.op.eq]; simp [ht])) (hip t ht))
  have hfin := h.bm.segs (y := 4) (T' := T1) (B' := addB B m (f, o)) hf hbb ⟨rfl, rfl, rfl, rfl⟩ ⟨rfl, rfl, rfl⟩ (fun m' hm' _ => ?_) (h.bm.fs.fr (fun t ht => hk t (allS_f ht) (hif t ht))) hnd h.bm.rs (fun _ => h.md) (by omega)
  · exact ⟨hfin.1, h.fr.trans hfin.2⟩
  · by_cases e : m' = m
    · subst e
      show Chn w3 (T1.sg m') (fup B.logs m' (B.logs m' ++ [(f, o)]) m')
      rw [fup_self]
      exact hch
    · show Chn w3 (T1.sg m') (fup B.logs m (B.logs m ++ [(f, o)]) m')
      rw [fup_ne _ _ e]
      exact (h.bm.sg m' hm' e).fr (fun t ht => hk t (allS_m hm' ht) (hin m' t hm' e ht))
/-- The last segment has room as it is. -/
theorem BMx.room (h : BM w ρ L T G B) {m : Nat} (hm : m < 4) (hn : (B.logs m).length % 16 ≠ 0) : ∃ s c pre, AdM w ρ L T G B m s ((B.logs m).length % 16) c pre ρ T w := by
  obtain ⟨pre, s, c, ho⟩ := (h.sg m hm (by omega)).opn hn
  have e : (addB B m (0, 0)).made = B.made := by unfold addB; dsimp only; rw [if_neg (fun e => hn e.1)]
  exact ⟨s, c, pre, by rw [e]; exact h.weak hm, ho, rfl, by rw [e]; exact h.md (by decide), Fr.refl _ _ _⟩
end
end Go.Proofs.Qxb6500888a
