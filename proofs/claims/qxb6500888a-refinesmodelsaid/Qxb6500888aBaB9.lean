/- The barrier: put, drain. -/
import Derived.Test.Qxb6500888aBaB8
namespace Go.Proofs.Qxb6500888a
open Go.RowKit
set_option linter.unusedSimpArgs false
set_option linter.unusedVariables false

theorem ptrO_shape (x : Option Nat) : ∃ a, ptrO x = .pointer a := by cases x <;> exact ⟨_, rfl⟩
set_option maxRecDepth 1000000 in
set_option maxHeartbeats 2000000 in
theorem put_walk {w : World} {bB s : Nat} {t : TypeId} {cs : List Value} {f : Option Nat} {c : Nat → Nat} {u : Nat} {nx : Option Nat} (hb : Blk w bB t cs) (hf : cs[279]? = some (ptrO f)) (hs : Blk w s 152 (fnC 34 (sgF c u nx))) (hne : bB ≠ s) :
    Calls Try.prog 99 #[.pointer (some ⟨bB, 279, none⟩), .pointer (some ⟨s, 0, none⟩)] w fun e w' => e = .returned (.tuple #[]) ∧ Blk w' bB t (cs.set 279 (ptrO (some s))) ∧ Blk w' s 152 (fnC 34 (sgF c 0 f)) ∧ (∀ k, k < w.heap.size → k ≠ bB → k ≠ s → w'.heap[k]? = w.heap[k]?) ∧ w'.heap.size = w.heap.size ∧ w'.os = w.os ∧ w'.tape = w.tape ∧ w'.output = w.output := by
  obtain ⟨a, ha⟩ := ptrO_shape f
  have c1 : w.cell? ⟨bB, 279, none⟩ = some (.pointer a) := by rw [hb.cell, hf, ha]
  have c2 := sg_used hs
  have c3 := sg_next hs
  have f1 := hb.frozen 279
  have f2 := hs.frozen 32
  have f3 := hs.frozen 33
  obtain ⟨b, hb'⟩ := ptrO_shape nx
  rw [hb'] at c3
  have h1 : (bB == s) = false := by simp; exact hne
  have h2 : (s == bB) = false := by simp; exact fun e => hne e.symm
  have HR : Hid (∀ w', ((w.setCell ⟨s, 32, none⟩ (.int .i64 0)).setCell ⟨s, 33, none⟩ (.pointer a)).setCell ⟨bB, 279, none⟩ (.pointer (some ⟨s, 0, none⟩)) = w' → Blk w' bB t (cs.set 279 (ptrO (some s))) ∧ Blk w' s 152 (fnC 34 (sgF c 0 f)) ∧ (∀ k, k < w.heap.size → k ≠ bB → k ≠ s → w'.heap[k]? = w.heap[k]?) ∧ w'.heap.size = w.heap.size ∧ w'.os = w.os ∧ w'.tape = w.tape ∧ w'.output = w.output) := hid (by
    rintro w' rfl
    refine ⟨?_, ?_, fun k hk k1 k2 => ?_, by simp [World.setCell], rfl, rfl, rfl⟩
    · exact ((hb.setOther (p := ⟨s, 32, none⟩) (fun e => hne e.symm) _).setOther (p := ⟨s, 33, none⟩) (fun e => hne e.symm) _).set 279 _
    · refine Blk.setOther (p := ⟨bB, 279, none⟩) ?_ hne _
      have := (hs.set 32 (.int .i64 ((0 : Nat) : Int))).set 33 (ptrO f)
      rw [sgF_used, sgF_next, ha] at this
      exact this
    · rw [Below.heap_setCell _ _ _ _ k1, Below.heap_setCell _ _ _ _ k2, Below.heap_setCell _ _ _ _ k2])
  have c1' : (w.setCell ⟨s, 32, none⟩ (.int .i64 0)).cell? ⟨bB, 279, none⟩ = some (.pointer a) := by rw [World.cell?_of_block (Below.heap_setCell _ _ _ _ hne)]; exact c1
  clear hb hf hs ha hb'
  go_enter Try.func99, Try.ntmps99
  go_upto_region 2 with fail
  obtain ⟨w1, hw1⟩ : ∃ w1, (w.setCell ⟨s, 32, none⟩ (.int .i64 0)).setCell ⟨s, 33, none⟩ (.pointer a) = w1 := ⟨_, rfl⟩
  have c4 : w1.cell? ⟨bB, 279, none⟩ = some (.pointer a) := by rw [← hw1, World.cell?_of_block (Below.heap_setCell _ _ _ _ hne)]; exact c1'
  have f4 : w1.frozen? ⟨bB, 279, none⟩ = false := by rw [← hw1, World.frozen?_of_block (Below.heap_setCell _ _ _ _ hne), World.frozen?_of_block (Below.heap_setCell _ _ _ _ hne)]; exact f1
  rw [hw1] at HR
  (try simp only [hw1])
  clear hw1 c1 c1' c2 c3 f1 f2 f3
  have HR2 := hid (HR.out _ rfl)
  go_wp2
  exact bodyPost_end (v := .tuple #[]) (by simp [results, Try.results99, go_sem]) rfl ⟨rfl, HR2.out⟩
section
variable {w w' : World} {ρ ρ' : Rl} {L : GL} {T : BL} {G : GS} {B : BS}
/-- The first k segments of a log are in the pool. -/
structure DrS (w : World) (ρ : Rl) (L : GL) (T : BL) (B : BS) (ids : List Nat) (k : Nat) (wr : World) : Prop where
  fr : Fr (fun c => c == 12 || c == 14) ρ w ρ wr
  bb : Blk wr T.bB 137 (fnC 285 (bF L { T with fs := (ids.take k).reverse ++ T.fs } B))
  fs : Fre wr ((ids.take k).reverse ++ T.fs)
  kp : ∀ t ∈ allS T, t ∉ ids.take k → wr.heap[t]? = w.heap[t]?
def drB (B : BS) (m : Nat) : BS := { B with logs := fup B.logs m [] }
def drT (T : BL) (m : Nat) : BL := { T with sg := fup T.sg m [], fs := (T.sg m).reverse ++ T.fs }
theorem allS_drain (T : BL) {m : Nat} (hm : m < 4) : (allS (drT T m)).Perm (allS T) := by
  unfold allS drT
  dsimp only
  have e : ∀ k, k ≠ m → fup T.sg m [] k = T.sg k := fun k hk => fup_ne _ _ hk
  have h0 : ((T.sg m).reverse ++ T.fs).Perm (T.sg m ++ T.fs) := (List.reverse_perm _).append_right _
  have sw : ∀ (a b c : List Nat), (a ++ (b ++ c)).Perm (b ++ (a ++ c)) := fun a b c => by
    rw [← List.append_assoc, ← List.append_assoc]
    exact List.perm_append_comm.append_right _
  rcases (by omega : m = 0 ∨ m = 1 ∨ m = 2 ∨ m = 3) with rfl | rfl | rfl | rfl
  · rw [fup_self, e 1 (by decide), e 2 (by decide), e 3 (by decide), List.nil_append]
    refine (((h0.append_left _).append_left _).append_left _).trans ?_
    exact (((sw _ _ _).append_left _).trans (sw _ _ _) |>.append_left _).trans (sw _ _ _)
  · rw [fup_self, e 0 (by decide), e 2 (by decide), e 3 (by decide), List.nil_append]
    refine (((h0.append_left _).append_left _).append_left _).trans ?_
    exact (((sw _ _ _).append_left _).trans (sw _ _ _)).append_left _
  · rw [fup_self, e 0 (by decide), e 1 (by decide), e 3 (by decide), List.nil_append]
    refine (((h0.append_left _).append_left _).append_left _).trans ?_
    exact ((sw _ _ _).append_left _).append_left _
  · rw [fup_self, e 0 (by decide), e 1 (by decide), e 2 (by decide), List.nil_append]
    exact ((h0.append_left _).append_left _).append_left _
theorem sg_nodup (h : (allS T).Nodup) {m : Nat} (hm : m < 4) : (T.sg m).Nodup := by
  refine h.sublist ?_
  unfold allS
  rcases (by omega : m = 0 ∨ m = 1 ∨ m = 2 ∨ m = 3) with rfl | rfl | rfl | rfl
  · exact List.sublist_append_left _ _
  · exact (List.sublist_append_left _ _).trans (List.sublist_append_right _ _)
  · exact ((List.sublist_append_left _ _).trans (List.sublist_append_right _ _)).trans (List.sublist_append_right _ _)
  · exact (((List.sublist_append_left _ _).trans (List.sublist_append_right _ _)).trans (List.sublist_append_right _ _)).trans (List.sublist_append_right _ _)
theorem sg_apart (hnd0 : (allS T).Nodup) {m m' t : Nat} (hm : m < 4) (hm' : m' < 4) (hne : m' ≠ m) (ht : t ∈ T.sg m') : t ∉ T.sg m := fun ht2 => by
  unfold allS at hnd0
  simp only [List.nodup_append, List.mem_append] at hnd0
  rcases (by omega : m = 0 ∨ m = 1 ∨ m = 2 ∨ m = 3) with rfl | rfl | rfl | rfl <;> rcases (by omega : m' = 0 ∨ m' = 1 ∨ m' = 2 ∨ m' = 3) with rfl | rfl | rfl | rfl <;> first | exact absurd rfl hne | skip
  · exact hnd0.2.2 t ht2 t (.inl ht) rfl
  · exact hnd0.2.2 t ht2 t (.inr (.inl ht)) rfl
  · exact hnd0.2.2 t ht2 t (.inr (.inr (.inl ht))) rfl
  · exact hnd0.2.2 t ht t (.inl ht2) rfl
  · exact hnd0.2.1.2.2 t ht2 t (.inl ht) rfl
  · exact hnd0.2.1.2.2 t ht2 t (.inr (.inl ht)) rfl
  · exact hnd0.2.2 t ht t (.inr (.inl ht2)) rfl
  · exact hnd0.2.1.2.2 t ht t (.inl ht2) rfl
  · exact hnd0.2.1.2.1.2.2 t ht2 t (.inl ht) rfl
  · exact hnd0.2.2 t ht t (.inr (.inr (.inl ht2))) rfl
  · exact hnd0.2.1.2.2 t ht t (.inr (.inl ht2)) rfl
  · exact hnd0.2.1.2.1.2.2 t ht t (.inl ht2) rfl
theorem fs_apart (hnd0 : (allS T).Nodup) {m t : Nat} (hm : m < 4) (ht : t ∈ T.fs) : t ∉ T.sg m := fun ht2 => by
  unfold allS at hnd0
  simp only [List.nodup_append, List.mem_append] at hnd0
  rcases (by omega : m = 0 ∨ m = 1 ∨ m = 2 ∨ m = 3) with rfl | rfl | rfl | rfl
  · exact hnd0.2.2 t ht2 t (.inr (.inr (.inr ht))) rfl
  · exact hnd0.2.1.2.2 t ht2 t (.inr (.inr ht)) rfl
  · exact hnd0.2.1.2.1.2.2 t ht2 t (.inr ht) rfl
  · exact hnd0.2.1.2.1.2.1.2.2 t ht2 t ht rfl
/-- One more segment goes to the pool. -/
theorem DrS.next (h : BM w ρ L T G B) {m : Nat} (hm : m < 4) {k s : Nat} {wr : World} (hd : DrS w ρ L T B (T.sg m) k wr) (hs : (T.sg m)[k]? = some s) {c : Nat → Nat} {t : TypeId}
    (hbb : Blk w' T.bB 137 ((fnC 285 (bF L { T with fs := ((T.sg m).take k).reverse ++ T.fs } B)).set 279 (ptrO (some s)))) (hsb : Blk w' s 152 (fnC 34 (sgF c 0 (((T.sg m).take k).reverse ++ T.fs).head?)))
    (hk : ∀ t, t < wr.heap.size → t ≠ T.bB → t ≠ s → w'.heap[t]? = wr.heap[t]?) (hsz : w'.heap.size = wr.heap.size) (ho : w'.os = wr.os ∧ w'.tape = wr.tape ∧ w'.output = wr.output) : DrS w ρ L T B (T.sg m) (k + 1) w' := by
  have hnd := sg_nodup h.nd hm
  have hsm : s ∈ T.sg m := List.mem_of_getElem? hs
  have h14 := h.rs s (allS_m hm hsm)
  have hkl := (List.getElem?_eq_some_iff.1 hs).1
  have htk : (T.sg m).take (k + 1) = (T.sg m).take k ++ [s] := by rw [List.take_add_one, hs]; rfl
  have hrev : ((T.sg m).take (k + 1)).reverse ++ T.fs = s :: (((T.sg m).take k).reverse ++ T.fs) := by rw [htk]; simp
  have hsn : s ∉ (T.sg m).take k := fun e => by
    rw [← List.take_append_drop (k + 1) (T.sg m), htk, List.nodup_append] at hnd
    have := (List.nodup_append.1 hnd.1).2.2 s e s (by simp)
    exact this rfl
  have hsz0 := hd.fr.size
  have hf : Fr (fun c => c == 12 || c == 14) ρ wr ρ w' := ⟨ho.1, ho.2.1, ho.2.2, by omega, fun _ _ => rfl, fun _ _ => rfl, fun g hg h0 => by
    refine hk g hg (fun e => ?_) (fun e => ?_)
    · rw [e, h.rb] at h0; cases h0
    · rw [e, h14] at h0; cases h0⟩
  have hkt : ∀ t ∈ allS T, t ≠ s → w'.heap[t]? = wr.heap[t]? := fun t ht hts => hk t (by have := h.lts ht; omega) (fun e => h.ne_s (h.rs t ht) e.symm) hts
  refine ⟨hd.fr.trans hf, ?_, ?_, fun t ht hti => ?_⟩
  · rw [hrev]
    have := bF_free L { T with fs := ((T.sg m).take k).reverse ++ T.fs } B (s :: (((T.sg m).take k).reverse ++ T.fs))
    rw [show (s :: (((T.sg m).take k).reverse ++ T.fs)).head? = some s from rfl] at this
    rw [this] at hbb
    exact hbb
  · rw [hrev]
    intro i t ht
    cases i with
    | zero =>
      simp at ht
      subst ht
      refine ⟨c, ?_⟩
      have e : (s :: (((T.sg m).take k).reverse ++ T.fs))[0 + 1]? = (((T.sg m).take k).reverse ++ T.fs).head? := by
        cases (((T.sg m).take k).reverse ++ T.fs) <;> rfl
      rw [e]
      exact hsb
    | succ i =>
      have ht' : (((T.sg m).take k).reverse ++ T.fs)[i]? = some t := by simpa using ht
      obtain ⟨d, hdb⟩ := hd.fs i t ht'
      have htm := List.mem_of_getElem? ht'
      have htT : t ∈ allS T := by
        rcases List.mem_append.1 htm with h1 | h1
        · exact allS_m hm (List.mem_of_mem_take (List.mem_reverse.1 h1))
        · exact allS_f h1
      refine ⟨d, ?_⟩
      have e : (s :: (((T.sg m).take k).reverse ++ T.fs))[i + 1 + 1]? = (((T.sg m).take k).reverse ++ T.fs)[i + 1]? := by simp
      rw [e]
      refine hdb.of (hkt t htT (fun e => ?_))
      subst e
      rcases List.mem_append.1 htm with h1 | h1
      · exact hsn (List.mem_reverse.1 h1)
      · exact fs_apart h.nd hm h1 hsm
  · rw [htk] at hti
    simp at hti
    rw [hkt t ht hti.2]
    exact hd.kp t ht hti.1
theorem DrS.zero (h : BM w ρ L T G B) (ids : List Nat) : DrS w ρ L T B ids 0 w := ⟨Fr.refl _ _ _, by simpa using h.bb, by simpa using h.fs, fun _ _ _ => rfl⟩
/-- The log is emptied. -/
theorem DrS.fin (h : BM w ρ L T G B) {m : Nat} (hm : m < 4) {k : Nat} {wr : World} (hd : DrS w ρ L T B (T.sg m) k wr) (hk : (T.sg m)[k]? = none) :
    BM (((wr.setCell ⟨T.bB, 3 + m * 69, none⟩ (.pointer none)).setCell ⟨T.bB, 3 + m * 69 + 1, none⟩ (.pointer none)).setCell ⟨T.bB, 3 + m * 69 + 2, none⟩ (.int .i64 0)) ρ L (drT T m) G (drB B m) ∧
    Fr bX ρ w ρ (((wr.setCell ⟨T.bB, 3 + m * 69, none⟩ (.pointer none)).setCell ⟨T.bB, 3 + m * 69 + 1, none⟩ (.pointer none)).setCell ⟨T.bB, 3 + m * 69 + 2, none⟩ (.int .i64 0)) := by
  have hkl : (T.sg m).length ≤ k := by
    rcases Nat.lt_or_ge k (T.sg m).length with h1 | h1
    · rw [List.getElem?_eq_getElem h1] at hk; cases hk
    · exact h1
  have htk : (T.sg m).take k = T.sg m := List.take_of_length_le hkl
  have hd1 := hd.bb
  have hd2 := hd.fs
  have hd3 := hd.kp
  rw [htk] at hd1 hd2 hd3
  obtain ⟨w3, hw3⟩ : ∃ w3, ((wr.setCell ⟨T.bB, 3 + m * 69, none⟩ (.pointer none)).setCell ⟨T.bB, 3 + m * 69 + 1, none⟩ (.pointer none)).setCell ⟨T.bB, 3 + m * 69 + 2, none⟩ (.int .i64 0) = w3 := ⟨_, rfl⟩
  have hU : Upd T.bB wr w3 := by rw [← hw3]; exact (upd2 _ _ _ _ _ _).trans (upd1 _ _ _ _)
  have hbb : Blk w3 T.bB 137 (fnC 285 (bF L (drT T m) (drB B m))) := by
    have h1 := ((hd1.set (3 + m * 69) (ptrO ([] : List Nat).head?)).set (3 + m * 69 + 1) (ptrO ([] : List Nat).getLast?)).set (3 + m * 69 + 2) (.int .i64 ((([] : List (Nat × Nat)).length : Nat) : Int))
    rw [bF_sg L _ _ hm, bF_log L _ _ hm] at h1
    rw [← hw3]
    exact h1
  rw [hw3]
  have hf := hd.fr.trans (Fr.upd hU (by show (ρ T.bB == 12 || ρ T.bB == 14) = true; rw [h.rb]; rfl) : Fr (fun c => c == 12 || c == 14) ρ wr ρ w3)
  have hp := allS_drain T hm
  have hkt : ∀ t ∈ allS T, w3.heap[t]? = wr.heap[t]? := fun t ht => hU.block t (by have := h.lts ht; have := hd.fr.size; omega) (fun e => h.ne_s (h.rs t ht) e.symm)
  refine h.segs (T' := drT T m) (B' := drB B m) (y := 4) hf hbb ⟨rfl, rfl, rfl, rfl⟩ ⟨rfl, rfl, rfl⟩ (fun m' hm' _ => ?_) (hd2.fr (fun t ht => hkt t ?_)) (hp.nodup_iff.2 h.nd) (fun t ht => h.rs t (hp.mem_iff.1 ht)) (fun _ => by rw [hp.length_eq]; exact h.md (by decide)) (by decide)
  · by_cases e : m' = m
    · subst e
      show Chn w3 (fup T.sg m' [] m') (fup B.logs m' [] m')
      rw [fup_self, fup_self]
      exact ⟨rfl, fun i s hs => by simp at hs⟩
    · show Chn w3 (fup T.sg m [] m') (fup B.logs m [] m')
      rw [fup_ne _ _ e, fup_ne _ _ e]
      refine (h.sg m' hm' (by omega)).fr (fun t ht => ?_)
      rw [hkt t (allS_m hm' ht)]
      exact hd3 t (allS_m hm' ht) (sg_apart h.nd hm hm' e ht)
  · rcases List.mem_append.1 ht with h1 | h1
    · exact allS_m hm (List.mem_reverse.1 h1)
    · exact allS_f h1
set_option maxRecDepth 1000000 in
set_option maxHeartbeats 4000000 in
theorem drain_walk (h : BM w ρ L T G B) {m : Nat} (hm : m < 4) : Calls Try.prog 92 #[.pointer (some ⟨T.bB, 3 + m * 69, none⟩), .pointer (some ⟨T.bB, 279, none⟩)] w fun e w' => e = .returned (.tuple #[]) ∧ BM w' ρ L (drT T m) G (drB B m) ∧ Fr bX ρ w ρ w' := by
  have HH := hid h
  have Hm := hid hm
  have c1 := (h.lcells hm).1
  obtain ⟨ids, hids⟩ : ∃ ids, T.sg m = ids := ⟨_, rfl⟩
  have Hids := hid hids
  rw [hids] at c1
  obtain ⟨a0, ha0⟩ := ptrO_shape ids.head?
  rw [ha0] at c1
  have Ha0 := hid ha0
  have Hnd : Hid ids.Nodup := hid (by rw [← hids]; exact sg_nodup h.nd hm)
  obtain ⟨q, hq⟩ : ∃ q, 3 + m * 69 = q := ⟨_, rfl⟩
  have Hq := hid hq
  rw [hq] at c1
  rw [hq]
  have HD0 : Hid (DrS w ρ L T B ids 0 w) := hid (DrS.zero h ids)
  clear h hm hids ha0 hq
  go_enter Try.func92, Try.ntmps92
  go_wp2_with fail
  clear c1
  go_loopw [4] (fun v wr => ∃ (i : Nat) (a : Option Addr), v = .pointer a ∧ Hid (Value.pointer a = ptrO ids[i]?) ∧ Hid (DrS w ρ L T B ids i wr)) (fun v _ => segLeft ids v)
  case atStart => exact ⟨0, a0, rfl, hid (by rw [← Ha0.out]; cases ids <;> rfl), HD0⟩
  case round =>
    obtain ⟨i, a, rfl, Hv, HD⟩ := hrel
    clear HD0
    have hv := Hv.out
    clear Hv
    cases hs : ids[i]? with
    | none =>
      as_aux_lemma =>
      rw [hs] at hv
      have hv' : a = none := by injection hv
      subst hv'
      clear hv
      have HR := hid (DrS.fin HH.out Hm.out (k := i) (wr := wr) (by rw [Hids.out]; exact HD.out) (by rw [Hids.out]; exact hs))
      rw [Hq.out] at HR
      have k0 := HD.out.bb
      have e1 : wr.cell? ⟨T.bB, q, none⟩ = some (mF { T with fs := (ids.take i).reverse ++ T.fs } B m 0) := by rw [k0.cell, ← Hq.out, fnC_get _ (by have := Hm.out; omega)]; exact congrArg some (bF_m L _ B (j := 0) Hm.out (by decide))
      have e2 : wr.cell? ⟨T.bB, q + 1, none⟩ = some (mF { T with fs := (ids.take i).reverse ++ T.fs } B m 1) := by rw [k0.cell, ← Hq.out, fnC_get _ (by have := Hm.out; omega)]; exact congrArg some (bF_m L _ B (j := 1) Hm.out (by decide))
      have e3 : wr.cell? ⟨T.bB, q + 2, none⟩ = some (mF { T with fs := (ids.take i).reverse ++ T.fs } B m 2) := by rw [k0.cell, ← Hq.out, fnC_get _ (by have := Hm.out; omega)]; exact congrArg some (bF_m L _ B (j := 2) Hm.out (by decide))
      have f1 := k0.frozen q
      have f2 := k0.frozen (q + 1)
      have f3 := k0.frozen (q + 2)
      generalize mF { T with fs := (ids.take i).reverse ++ T.fs } B m 0 = x1 at e1
      generalize mF { T with fs := (ids.take i).reverse ++ T.fs } B m 1 = x2 at e2
      generalize mF { T with fs := (ids.take i).reverse ++ T.fs } B m 2 = x3 at e3
      clear k0 hs HD
      go_wp2
      exact bodyPost_end (v := .tuple #[]) (by simp [results, Try.results92, go_sem]) rfl ⟨rfl, HR.out⟩
    | some s =>
      rw [hs] at hv
      have hv' : a = some ⟨s, 0, none⟩ := by injection hv
      subst hv'
      clear hv
      have Hs := hid hs
      have hsm : s ∈ T.sg m := by rw [Hids.out]; exact List.mem_of_getElem? hs
      have hnt : s ∉ ids.take i := fun e => by
        have hnd := Hnd.out
        rw [← List.take_append_drop (i + 1) ids, List.take_add_one, hs, List.nodup_append] at hnd
        exact (List.nodup_append.1 hnd.1).2.2 s e s (by simp) rfl
      obtain ⟨c, hsb, _⟩ := (HH.out.sg m Hm.out (by have := Hm.out; omega)).sg i s (by rw [Hids.out]; exact hs)
      have hsb2 := hsb.of (HD.out.kp s (allS_m Hm.out hsm) hnt)
      rw [Hids.out] at hsb2
      have c2 := sg_next hsb2
      obtain ⟨b, hb⟩ := ptrO_shape ids[i + 1]?
      rw [hb] at c2
      have Hb := hid hb
      have hf279 : (fnC 285 (bF L { T with fs := (ids.take i).reverse ++ T.fs } B))[279]? = some (ptrO ((ids.take i).reverse ++ T.fs).head?) := by rw [fnC_get _ (by decide)]; rfl
      have HPu := hid (put_walk HD.out.bb hf279 hsb2 (HH.out.ne_s (HH.out.rs s (allS_m Hm.out hsm))))
      have HDn : Hid (∀ w', Blk w' T.bB 137 ((fnC 285 (bF L { T with fs := (ids.take i).reverse ++ T.fs } B)).set 279 (ptrO (some s))) → Blk w' s 152 (fnC 34 (sgF c 0 ((ids.take i).reverse ++ T.fs).head?)) → (∀ t, t < wr.heap.size → t ≠ T.bB → t ≠ s → w'.heap[t]? = wr.heap[t]?) → w'.heap.size = wr.heap.size → (w'.os = wr.os ∧ w'.tape = wr.tape ∧ w'.output = wr.output) → DrS w ρ L T B ids (i + 1) w') := hid (fun w' h1 h2 h3 h4 h5 => by
        have := DrS.next (w' := w') (t := 0) HH.out Hm.out (k := i) (s := s) (wr := wr) (c := c) (by rw [Hids.out]; exact HD.out) (by rw [Hids.out]; exact hs) (by rw [Hids.out]; exact h1) (by rw [Hids.out]; exact h2) h3 h4 h5
        rw [Hids.out] at this
        exact this)
      have Hlt := hid (segLeft_next Hnd.out hs)
      clear hs hsm hnt hsb hsb2 hb hf279 HD
      as_aux_lemma =>
      go_wp2_with fail
      refine HPu.out.mono ?_
      rintro e5 w5 ⟨rfl, p1, p2, p3, p4, p5⟩
      have HD5 := hid (HDn.out w5 p1 p2 p3 p4 p5)
      clear p1 p2 p3 p4 p5 HDn HPu c2
      go_wp2
      exact ⟨⟨i + 1, b, rfl, hid Hb.out.symm, HD5⟩, by rw [Hb.out] at Hlt; exact Hlt.out⟩
end
end Go.Proofs.Qxb6500888a
