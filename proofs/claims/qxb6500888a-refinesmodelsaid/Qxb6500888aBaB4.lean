/- The barrier: StartTrace, EndTrace, field, Read, Alloc. -/
import Derived.Test.Qxb6500888aBaB3
namespace Go.Proofs.Qxb6500888a
open Go.RowKit
set_option linter.unusedSimpArgs false
set_option linter.unusedVariables false

def fieldS (G : GS) (obj : Nat) (i : Int) : Nat × Nat :=
  match G.head obj with
  | none => (0, 2)
  | some (n, q) => if i < 0 ∨ (q : Int) ≤ i then (0, 3) else (obj + 1 + i.toNat, 0)
def readS (G : GS) (obj : Nat) (i : Int) : Nat × Nat := if (fieldS G obj i).2 = 0 then (G.word (offA (fieldS G obj i).1), 0) else (0, (fieldS G obj i).2)
def newG (G : GS) (s n q : Nat) : GS := { G with tk := fillF G.tk s (1 + n) true, head := fup G.head (65536 + s) (some (n, q)), word := fillF G.word s (n + 1) 0, lg := fillF G.lg (s + 1) q true }
def newB (B : BS) (m a : Nat) : BS := { B with fresh := fup B.fresh m (B.fresh m ++ [a]) }
def alocS (G : GS) (B : BS) (x sz rf : Int) : (Nat × Nat) × GS × BS :=
  if badM x then ((0, 1), G, B) else if sz < 1 ∨ 8192 < sz then ((0, 5), G, B) else if rf < 0 ∨ sz < rf then ((0, 6), G, B) else
  match placeA G.tk (1 + sz.toNat) with
  | none => ((0, 7), G, B)
  | some s => ((65536 + s, 0), newG G s sz.toNat rf.toNat, newB B x.toNat (65536 + s))
section
variable {x : Nat} {w w' : World} {ρ ρ' : Rl} {L : GL} {T : BL} {G : GS} {B : BS}
theorem bF_tr (L : GL) (T : BL) (B : BS) (t : Nat) : (fnC 285 (bF L T B)).set 283 (.int .u8 (t : Int)) = fnC 285 (bF L T { B with tr := t }) := by
  refine bF_setE L (by decide) (by decide) rfl (fun m j _ _ => rfl) (fun i h1 h2 h3 => ?_)
  unfold eF
  rcases (by omega : i = 279 ∨ i = 280 ∨ i = 281 ∨ i = 282 ∨ i = 284) with rfl | rfl | rfl | rfl | rfl <;> rfl
theorem BMx.trace (h : BMx x w ρ L T G B) (t : Nat) : BMx x (w.setCell ⟨T.bB, 283, none⟩ (.int .u8 (t : Int))) ρ L T G { B with tr := t } ∧ Fr bX ρ w ρ (w.setCell ⟨T.bB, 283, none⟩ (.int .u8 (t : Int))) := by
  have hb := h.bb.set 283 (.int .u8 (t : Int))
  rw [bF_tr] at hb
  exact h.own (upd1 _ _ _ _) hb rfl rfl rfl h.rl rfl
theorem mF_fresh (T : BL) (B : BS) (fv : Nat → Value) (F : Nat → List Nat) {m j : Nat} (h : j ≠ 68 ∨ fv m = T.fv m) (hj : j < 69) : mF { T with fv := fv } { B with fresh := F } m j = mF T B m j := by
  unfold mF
  rcases h with h | h
  · by_cases h0 : j = 0
    · rw [if_pos h0, if_pos h0]
    by_cases h1 : j = 1
    · rw [if_neg h0, if_pos h1, if_neg h0, if_pos h1]
    by_cases h2 : j = 2
    · rw [if_neg h0, if_neg h1, if_pos h2, if_neg h0, if_neg h1, if_pos h2]
    by_cases h3 : j < 67
    · rw [if_neg h0, if_neg h1, if_neg h2, if_pos h3, if_neg h0, if_neg h1, if_neg h2, if_pos h3]
    rw [if_neg h0, if_neg h1, if_neg h2, if_neg h3, if_pos (by omega), if_neg h0, if_neg h1, if_neg h2, if_neg h3, if_pos (by omega)]
  · dsimp only
    rw [h]
theorem BMx.fcell (h : BMx x w ρ L T G B) {m : Nat} (hm : m < 4) : w.cell? ⟨T.bB, 3 + m * 69 + 68, none⟩ = some (T.fv m) := by rw [h.mcell hm (by decide)]; rfl
/-- A row of new objects is another. -/
theorem BMx.setF (h : BMx x w ρ L T G B) {m : Nat} (hm : m < 4) {v : Value} {xs : List Nat} (hf : Fr (fun r => r == 16 + m) ρ w ρ' w') (hr : RowX rtA w' ρ' (16 + m) v xs) :
    BMx x (w'.setCell ⟨T.bB, 3 + m * 69 + 68, none⟩ v) ρ' L { T with fv := fup T.fv m v } G { B with fresh := fup B.fresh m xs } ∧ Fr (fun r => r == 16 + m || r == 12) ρ w ρ' (w'.setCell ⟨T.bB, 3 + m * 69 + 68, none⟩ v) := by
  have hlt := h.bb.lt
  have rb : ρ' T.bB = 12 := by rw [hf.old _ hlt]; exact h.rb
  have hf2 : Fr (fun r => r == 12) ρ' w' ρ' (w'.setCell ⟨T.bB, 3 + m * 69 + 68, none⟩ v) := Fr.set _ (by show (ρ' T.bB == 12) = true; rw [rb]; rfl)
  have hf3 : Fr (fun r => r == 16 + m || r == 12) ρ w ρ' (w'.setCell ⟨T.bB, 3 + m * 69 + 68, none⟩ v) := (hf.mono fun c hc => by simp at hc ⊢; exact .inl hc).trans (hf2.mono fun c hc => by simp at hc ⊢; exact .inr hc)
  have hg : GM _ ρ' L G := (GMh.but h.gm hf3).full (fun c hc => by
    have := of_decide_eq_true hc
    show (c == 16 + m || c == 12) = false
    simp
    omega)
  have hk : ∀ s ∈ allS T, (w'.setCell ⟨T.bB, 3 + m * 69 + 68, none⟩ v).heap[s]? = w.heap[s]? := fun s hs => hf3.blk s (h.lts hs) (by rw [h.rs s hs]; show (14 == 16 + m || 14 == 12) = false; simp; omega)
  have hb := (hf.keep h.bb h.rb (by show (12 == 16 + m) = false; simp; omega)).set (3 + m * 69 + 68) v
  have hse : (fnC 285 (bF L T B)).set (3 + m * 69 + 68) v = fnC 285 (bF L { T with fv := fup T.fv m v } { B with fresh := fup B.fresh m xs }) := bF_setM L hm (by decide) (by
    show fup T.fv m v m = v
    exact fup_self _ _ _) (fun m' j' hm' hj' hne => by
      refine mF_fresh T B _ _ ?_ hj'
      by_cases e : j' = 68
      · rcases hne with h1 | h1
        · exact .inr (fup_ne _ _ h1)
        · exact absurd e h1
      · exact .inl e) (fun i hi => rfl)
  rw [hse] at hb
  refine ⟨⟨hg, hb, rb, fun m' hm' => ?_, h.lr.fr hf3 (by show (13 == 16 + m || 13 == 12) = false; simp; omega), fun e => (h.sp e).fr hf3 (by show (13 == 16 + m || 13 == 12) = false; simp; omega), h.ls, fun m' hm' hx' => (h.sg m' hm' hx').fr (fun s hs => hk s (allS_m hm' hs)), h.fs.fr (fun s hs => hk s (allS_f hs)), h.nd, fun s hs => by rw [hf.old s (h.lts hs)]; exact h.rs s hs, h.rl, h.md⟩, hf3⟩
  · by_cases e : m' = m
    · subst e
      show RowX rtA _ ρ' (16 + m') (fup T.fv m' v m') (fup B.fresh m' xs m')
      rw [fup_self, fup_self]
      exact hr.fr hf2 (by show (16 + m' == 12) = false; simp; omega)
    · show RowX rtA _ ρ' (16 + m') (fup T.fv m v m') (fup B.fresh m xs m')
      rw [fup_ne _ _ e, fup_ne _ _ e]
      exact (h.fr m' hm').fr hf3 (by show (16 + m' == 16 + m || 16 + m' == 12) = false; simp; omega)
set_option maxRecDepth 1000000 in
set_option maxHeartbeats 2000000 in
theorem endTrace_walk (h : BM w ρ L T G B) : Calls Try.prog 46 #[.pointer (some ⟨T.bB, 0, none⟩)] w fun e w' => e = .returned (.tuple #[]) ∧ BM w' ρ L T G { B with tr := 0 } ∧ Fr bX ρ w ρ w' := by
  have c1 := h.ecell (i := 283) (by decide) (by decide)
  have f1 := h.bb.frozen 283
  have HR := hid (h.trace 0)
  rw [show eF T B 283 = .int .u8 (B.tr : Int) from rfl] at c1
  generalize B.tr = t at c1
  clear h
  go_enter Try.func46, Try.ntmps46
  go_wp2
  exact bodyPost_end (v := .tuple #[]) (by simp [results, Try.results46, go_sem]) rfl ⟨rfl, HR.out⟩
set_option maxRecDepth 1000000 in
set_option maxHeartbeats 2000000 in
theorem startTrace_walk (h : BM w ρ L T G B) (ht : B.tr ≤ 2) : Calls Try.prog 47 #[.pointer (some ⟨T.bB, 0, none⟩)] w fun e w' => e = .returned (.tuple #[]) ∧ BM w' ρ L T G { B with tr := if B.tr = 0 then 1 else B.tr } ∧ Fr bX ρ w ρ w' := by
  have c1 := h.ecell (i := 283) (by decide) (by decide)
  have f1 := h.bb.frozen 283
  rw [show eF T B 283 = .int .u8 (B.tr : Int) from rfl] at c1
  by_cases h0 : B.tr = 0
  · rw [if_pos h0]
    have HR := hid (h.trace 1)
    rw [h0] at c1
    have c1' : w.cell? ⟨T.bB, 283, none⟩ = some (.int .u8 0) := c1
    clear h h0 ht c1
    go_enter Try.func47, Try.ntmps47
    go_wp2
    exact bodyPost_end (v := .tuple #[]) (by simp [results, Try.results47, go_sem]) rfl ⟨rfl, HR.out⟩
  · rw [if_neg h0]
    have HR : Hid (∀ t, B.tr = t → BM w ρ L T G { B with tr := t }) := hid (fun t ht => by subst ht; exact h)
    obtain ⟨t, ht'⟩ : ∃ t, B.tr = t := ⟨_, rfl⟩
    have HR2 := hid (HR.out t ht')
    have d0 : ((B.tr : Int) == 0) = false := by simp; omega
    have i1 : (B.tr : Int) ≤ 2 := by omega
    rw [ht'] at c1 d0 i1 ⊢
    clear h h0 ht HR ht'
    go_enter Try.func47, Try.ntmps47
    go_wp2
    exact bodyPost_end (v := .tuple #[]) (by simp [results, Try.results47, go_sem]) rfl ⟨rfl, HR2.out, Fr.refl _ _ _⟩
set_option maxRecDepth 1000000 in
set_option maxHeartbeats 2000000 in
theorem bfield_walk (h : BM w ρ L T G B) (hok : GOk G) (obj : Nat) (i : Int) : Calls Try.prog 86 #[.pointer (some ⟨T.bB, 0, none⟩), .int .u64 (obj : Int), .int .i64 i] w fun e w' => e = .returned (.tuple #[.int .u64 ((fieldS G obj i).1 : Int), .int .u8 ((fieldS G obj i).2 : Int)]) ∧ Below w.heap.size w w' := by
  have HH := hid h
  have c0 := h.gcells.1
  have HS := hid (shapeOf_walk h.gm obj)
  cases hh : G.head obj with
  | none =>
    rw [hh] at HS
    have e : fieldS G obj i = (0, 2) := by unfold fieldS; rw [hh]
    rw [e]
    unfold shV at HS
    dsimp only [Option.getD, Option.isSome] at HS
    clear h hh e
    go_enter Try.func86, Try.ntmps86
    go_wp2_with fail
    refine HS.out.mono ?_
    rintro e1 w1 ⟨rfl, hb1⟩
    have HB := hid hb1
    clear HS c0 hb1
    go_wp2
    exact bodyPost_ret (v := .tuple #[.int .u64 0, .int .u8 2]) (by simp [results, Try.results86, go_sem]) rfl ⟨rfl, HB.out.trans ((nbel _ _).mono HB.out.size)⟩
  | some p =>
    obtain ⟨n, q⟩ := p
    rw [hh] at HS
    have hr := hok.hd obj n q hh
    have e : fieldS G obj i = if i < 0 ∨ (q : Int) ≤ i then (0, 3) else (obj + 1 + i.toNat, 0) := by unfold fieldS; rw [hh]
    rw [e]
    unfold shV at HS
    dsimp only [Option.getD, Option.isSome] at HS
    have Hr := hid hr
    have ho := offA_in hr.1
    have Ho := hid ho
    clear hh e h ho hr
    by_cases hi : i < 0 ∨ (q : Int) ≤ i
    · rw [if_pos hi]
      by_cases h0 : i < 0
      · as_aux_lemma =>
        have d1 : decide (i < 0) = true := decide_eq_true h0
        go_enter Try.func86, Try.ntmps86
        go_wp2_with fail
        refine HS.out.mono ?_
        rintro e1 w1 ⟨rfl, hb1⟩
        have HB := hid hb1
        clear HS c0 hb1
        go_wp2
        exact bodyPost_ret (v := .tuple #[.int .u64 0, .int .u8 3]) (by simp [results, Try.results86, go_sem]) rfl ⟨rfl, HB.out.trans ((nbel _ _).mono HB.out.size)⟩
      · as_aux_lemma =>
        have d1 : decide (i < 0) = false := decide_eq_false h0
        have d2 : decide (i ≥ (q : Int)) = true := decide_eq_true (by omega)
        have d3 : decide ((q : Int) ≤ i) = true := decide_eq_true (by omega)
        go_enter Try.func86, Try.ntmps86
        go_wp2_with fail
        refine HS.out.mono ?_
        rintro e1 w1 ⟨rfl, hb1⟩
        have HB := hid hb1
        clear HS c0 hb1
        go_wp2
        exact bodyPost_ret (v := .tuple #[.int .u64 0, .int .u8 3]) (by simp [results, Try.results86, go_sem]) rfl ⟨rfl, HB.out.trans ((nbel _ _).mono HB.out.size)⟩
    · rw [if_neg hi]
      obtain ⟨k, rfl⟩ : ∃ k : Nat, i = (k : Int) := ⟨i.toNat, by omega⟩
      have d1 : decide ((k : Int) < 0) = false := decide_eq_false (by omega)
      have d2 : decide ((k : Int) ≥ (q : Int)) = false := decide_eq_false (by omega)
      have d3 : decide ((q : Int) ≤ (k : Int)) = false := decide_eq_false (by omega)
      have d4 : decide (q ≤ k) = false := decide_eq_false (by omega)
      have d5 : ¬ q ≤ k := by omega
      rw [show (k : Int).toNat = k from rfl]
      obtain ⟨b, hb⟩ : ∃ b, obj + 1 + k = b := ⟨_, rfl⟩
      rw [hb]
      have HF : Hid (∀ w, Calls Try.prog 35 #[.int .u64 (obj : Int), .int .i64 (k : Int)] w fun e w' => e = .returned (.int .u64 (b : Int)) ∧ w' = w) := hid (fun w => field_walk hb (by have := Hr.out; have := Ho.out; omega) (by have := Hr.out; omega) w)
      clear hb hi
      as_aux_lemma =>
      go_enter Try.func86, Try.ntmps86
      go_wp2_with fail
      refine HS.out.mono ?_
      rintro e1 w1 ⟨rfl, hb1⟩
      have HB := hid hb1
      clear HS c0 hb1
      go_wp2_with fail
      refine (HF.out _).mono ?_
      rintro e2 w2 ⟨rfl, rfl⟩
      clear HF
      go_wp2
      exact bodyPost_ret (v := .tuple #[.int .u64 (b : Int), .int .u8 0]) (by simp [results, Try.results86, go_sem]) rfl ⟨rfl, HB.out.trans ((nbel _ _).mono HB.out.size)⟩
theorem fieldS_ok {G : GS} (hok : GOk G) {obj : Nat} {i : Int} (h : (fieldS G obj i).2 = 0) : ∃ n q, ∃ k : Nat, G.head obj = some (n, q) ∧ i = (k : Int) ∧ k < q ∧ (fieldS G obj i).1 = obj + 1 + k ∧ 65536 + (offA obj + 1 + k) = obj + 1 + k ∧ offA obj + 1 + k < 32768 ∧ offA (fieldS G obj i).1 = offA obj + 1 + k := by
  unfold fieldS at h ⊢
  cases hh : G.head obj with
  | none => rw [hh] at h; cases h
  | some p =>
    obtain ⟨n, q⟩ := p
    rw [hh] at h
    dsimp only at h ⊢
    by_cases hi : i < 0 ∨ (q : Int) ≤ i
    · rw [if_pos hi] at h; cases h
    · rw [if_neg hi]
      have hr := hok.hd obj n q hh
      have ho := offA_in hr.1
      have hk : i = (i.toNat : Int) := by omega
      refine ⟨n, q, i.toNat, rfl, hk, by omega, rfl, by omega, by omega, ?_⟩
      exact offA_eq (by omega)
set_option maxRecDepth 1000000 in
set_option maxHeartbeats 2000000 in
theorem read_walk (h : BM w ρ L T G B) (hok : GOk G) (obj : Nat) (i : Int) : Calls Try.prog 55 #[.pointer (some ⟨T.bB, 0, none⟩), .int .u64 (obj : Int), .int .i64 i] w fun e w' => e = .returned (.tuple #[.int .u64 ((readS G obj i).1 : Int), .int .u8 ((readS G obj i).2 : Int)]) ∧ Below w.heap.size w w' := by
  have HH := hid h
  have HF := hid (bfield_walk h hok obj i)
  unfold readS
  by_cases hc : (fieldS G obj i).2 = 0
  · obtain ⟨n, q, k, hh, rfl, hk, h1, h2, h3, h4⟩ := fieldS_ok hok hc
    rw [if_pos hc]
    rw [hc] at HF
    rw [h4]
    rw [h1] at HF
    have HX := hid (And.intro h2 h3)
    obtain ⟨b, hb⟩ : ∃ b, obj + 1 + k = b := ⟨_, rfl⟩
    rw [hb] at HF HX
    obtain ⟨s, hs⟩ : ∃ s, offA obj + 1 + k = s := ⟨_, rfl⟩
    rw [hs] at HX ⊢
    obtain ⟨x, hx⟩ : ∃ x, G.word s = x := ⟨_, rfl⟩
    rw [hx]
    have Hx := hid hx
    clear h hok hc hh hk h1 h2 h3 h4 hb hs hx
    go_enter Try.func55, Try.ntmps55
    go_wp2_with fail
    refine HF.out.mono ?_
    rintro e1 w1 ⟨rfl, hb1⟩
    have HB := hid hb1
    have HM := hid (HH.out.below hb1)
    have c0 := HM.out.gcells.1
    have HRf := hid (refAt_walk HM.out.gm HX.out.1 HX.out.2)
    rw [Hx.out] at HRf
    clear HF hb1
    go_wp2_with fail
    refine HRf.out.mono ?_
    rintro e2 w2 ⟨rfl, hb2⟩
    have HB2 := hid (HB.out.trans (hb2.mono HB.out.size))
    clear HRf hb2 c0
    go_wp2
    exact bodyPost_ret (v := .tuple #[.int .u64 (x : Int), .int .u8 0]) (by simp [results, Try.results55, go_sem]) rfl ⟨rfl, HB2.out⟩
  · rw [if_neg hc]
    generalize (fieldS G obj i).1 = b at HF
    generalize (fieldS G obj i).2 = c at HF hc ⊢
    have dc : ((c : Int) != 0) = true := by simp; omega
    clear h hok hc
    go_enter Try.func55, Try.ntmps55
    go_wp2_with fail
    refine HF.out.mono ?_
    rintro e1 w1 ⟨rfl, hb1⟩
    have HB := hid hb1
    clear HF hb1
    go_wp2
    exact bodyPost_ret (v := .tuple #[.int .u64 0, .int .u8 (c : Int)]) (by simp [results, Try.results55, go_sem]) rfl ⟨rfl, HB.out⟩
/-- What Alloc answers. -/
def AlP (w : World) (ρ : Rl) (L : GL) (T : BL) (r : (Nat × Nat) × GS × BS) (e : Ending) (w' : World) : Prop := e = .returned (.tuple #[.int .u64 (r.1.1 : Int), .int .u8 (r.1.2 : Int)]) ∧ ∃ T' ρ', T'.bB = T.bB ∧ BM w' ρ' L T' r.2.1 r.2.2 ∧ Fr bX ρ w ρ' w'
set_option maxRecDepth 1000000 in
set_option maxHeartbeats 4000000 in
theorem alloc_walk (h : BM w ρ L T G B) (x sz rf : Int) (hf : ∀ m, (B.fresh m).length ≤ 1000000) : Calls Try.prog 50 #[.pointer (some ⟨T.bB, 0, none⟩), .int .i64 x, .int .i64 sz, .int .i64 rf] w fun e w' => AlP w ρ L T (alocS G B x sz rf) e w' := by
  by_cases hx : badM x
  · as_aux_lemma =>
    have HM := hid (mutator_bad T.bB hx w)
    have HR : Hid (AlP w ρ L T (alocS G B x sz rf) (.returned (.tuple #[.int .u64 0, .int .u8 1])) w) := hid (by unfold alocS; rw [if_pos hx]; exact ⟨rfl, T, ρ, rfl, h, Fr.refl _ _ _⟩)
    clear h hf
    go_enter Try.func50, Try.ntmps50
    go_wp2_with fail
    refine HM.out.mono ?_
    rintro e1 w1 ⟨rfl, rfl⟩
    clear HM
    go_wp2
    exact bodyPost_ret (v := .tuple #[.int .u64 0, .int .u8 1]) (by simp [results, Try.results50, go_sem]) rfl HR.out
  obtain ⟨m, rfl, hm⟩ : ∃ m : Nat, x = (m : Int) ∧ m < 4 := ⟨x.toNat, by unfold badM at hx; omega, by unfold badM at hx; omega⟩
  have HM := hid (mutator_ok T.bB hm w)
  have Hx := hid hx
  have HH := hid h
  by_cases h5 : sz < 1 ∨ 8192 < sz
  · have HR : Hid (AlP w ρ L T (alocS G B (m : Int) sz rf) (.returned (.tuple #[.int .u64 0, .int .u8 5])) w) := hid (by unfold alocS; rw [if_neg hx, if_pos h5]; exact ⟨rfl, T, ρ, rfl, h, Fr.refl _ _ _⟩)
    clear h hf hx
    by_cases h51 : sz < 1
    · as_aux_lemma =>
      have d1 : decide (sz < 1) = true := decide_eq_true h51
      go_enter Try.func50, Try.ntmps50
      go_wp2_with fail
      refine HM.out.mono ?_
      rintro e1 w1 ⟨rfl, rfl⟩
      clear HM
      go_wp2
      exact bodyPost_ret (v := .tuple #[.int .u64 0, .int .u8 5]) (by simp [results, Try.results50, go_sem]) rfl HR.out
    · as_aux_lemma =>
      have d1 : decide (sz < 1) = false := decide_eq_false h51
      have d2 : decide (sz > 8192) = true := decide_eq_true (by omega)
      have d3 : decide (8192 < sz) = true := decide_eq_true (by omega)
      go_enter Try.func50, Try.ntmps50
      go_wp2_with fail
      refine HM.out.mono ?_
      rintro e1 w1 ⟨rfl, rfl⟩
      clear HM
      go_wp2
      exact bodyPost_ret (v := .tuple #[.int .u64 0, .int .u8 5]) (by simp [results, Try.results50, go_sem]) rfl HR.out
  obtain ⟨n, rfl⟩ : ∃ n : Nat, sz = (n : Int) := ⟨sz.toNat, by omega⟩
  have H5 := hid h5
  have d1 : decide ((n : Int) < 1) = false := decide_eq_false (by omega)
  have d2 : decide ((n : Int) > 8192) = false := decide_eq_false (by omega)
  have d3 : decide ((8192 : Int) < (n : Int)) = false := decide_eq_false (by omega)
  have hn1 : 1 ≤ n := by omega
  have hn2 : n ≤ 8192 := by omega
  by_cases h6 : rf < 0 ∨ (n : Int) < rf
  · have HR : Hid (AlP w ρ L T (alocS G B (m : Int) (n : Int) rf) (.returned (.tuple #[.int .u64 0, .int .u8 6])) w) := hid (by unfold alocS; rw [if_neg hx, if_neg h5, if_pos h6]; exact ⟨rfl, T, ρ, rfl, h, Fr.refl _ _ _⟩)
    clear h hf hx h5
    by_cases h61 : rf < 0
    · as_aux_lemma =>
      have d6 : decide (rf < 0) = true := decide_eq_true h61
      go_enter Try.func50, Try.ntmps50
      go_wp2_with fail
      refine HM.out.mono ?_
      rintro e1 w1 ⟨rfl, rfl⟩
      clear HM
      go_wp2
      exact bodyPost_ret (v := .tuple #[.int .u64 0, .int .u8 6]) (by simp [results, Try.results50, go_sem]) rfl HR.out
    · as_aux_lemma =>
      have d6 : decide (rf < 0) = false := decide_eq_false h61
      have d7 : decide (rf > (n : Int)) = true := decide_eq_true (by omega)
      have d8 : decide ((n : Int) < rf) = true := decide_eq_true (by omega)
      go_enter Try.func50, Try.ntmps50
      go_wp2_with fail
      refine HM.out.mono ?_
      rintro e1 w1 ⟨rfl, rfl⟩
      clear HM
      go_wp2
      exact bodyPost_ret (v := .tuple #[.int .u64 0, .int .u8 6]) (by simp [results, Try.results50, go_sem]) rfl HR.out
  obtain ⟨q, rfl⟩ : ∃ q : Nat, rf = (q : Int) := ⟨rf.toNat, by omega⟩
  have d6 : decide ((q : Int) < 0) = false := decide_eq_false (by omega)
  have d7 : decide ((q : Int) > (n : Int)) = false := decide_eq_false (by omega)
  have d8 : decide ((n : Int) < (q : Int)) = false := decide_eq_false (by omega)
  have d9 : decide (n < q) = false := decide_eq_false (by omega)
  have hqn : ¬ n < q := by omega
  have HX : Hid (alocS G B (m : Int) (n : Int) (q : Int) = match placeA G.tk (1 + n) with | none => ((0, 7), G, B) | some s => ((65536 + s, 0), newG G s n q, newB B m (65536 + s))) := hid (by unfold alocS; rw [if_neg hx, if_neg h5, if_neg h6]; rfl)
  have c1 := h.gcells.2.1
  have HSp := hid (spAlloc_walk h.gm (1 + n) (by omega) (by omega))
  rw [show ((1 + n : Nat) : Int) = 1 + (n : Int) by omega] at HSp
  have i1 : (n : Int) ≤ 8192 := by omega
  have Hf := hid (hf m)
  have Hm := hid hm
  clear h hx h5 h6 hf hm
  go_enter Try.func50, Try.ntmps50
  go_wp2_with fail
  refine HM.out.mono ?_
  rintro e1 w1 ⟨rfl, rfl⟩
  clear HM
  go_wp2_with fail
  refine HSp.out.mono ?_
  intro e2 w2 h2
  unfold SpP at h2
  cases hpl : placeA G.tk (1 + n) with
  | none =>
    rw [hpl] at h2
    obtain ⟨rfl, rfl⟩ := h2
    as_aux_lemma =>
    have HR : Hid (AlP w2 ρ L T (alocS G B (m : Int) (n : Int) (q : Int)) (.returned (.tuple #[.int .u64 0, .int .u8 7])) w2) := hid (by rw [HX.out, hpl]; exact ⟨rfl, T, ρ, rfl, HH.out, Fr.refl _ _ _⟩)
    clear hpl HX HSp
    go_wp2
    exact bodyPost_ret (v := .tuple #[.int .u64 0, .int .u8 7]) (by simp [results, Try.results50, go_sem]) rfl HR.out
  | some s =>
    rw [hpl] at h2
    obtain ⟨rfl, hm2, hf2⟩ := h2
    have hps := placeA_some hpl
    have Hps := hid hps
    rw [hpl] at HX
    obtain ⟨a, ha⟩ : ∃ a, 65536 + s = a := ⟨_, rfl⟩
    have Ha := hid ha
    rw [ha]
    dsimp only at HX
    have HM2 := hid (HH.out.ground hm2 (GL.Same.refl _) hf2)
    have HF2 := hid hf2
    have c2 := HM2.out.gcells.1
    have H3 := hid (format_walk HM2.out.gm ha n q (by omega))
    clear hm2 hf2 hps HSp c1 ha hpl
    go_wp2_with fail
    refine H3.out.mono ?_
    rintro e3 w3 ⟨rfl, hm3, hf3⟩
    have HM3 := hid (HM2.out.ground hm3 (GL.Same.refl _) hf3)
    have HF3 := hid (HF2.out.trans hf3)
    clear H3 hm3 hf3 HM2 HF2 c2
    obtain ⟨X, W, HTT, H0, hne, HC⟩ := class_below w3
    have c3 : ∀ y, (W y).cell? ⟨T.bB, 0, none⟩ = some (.pointer (some ⟨L.hB, 0, none⟩)) := fun y => (HM3.out.below (HTT.out y)).gcells.1
    obtain ⟨b, hb⟩ : ∃ b, a + 1 + 0 = b := ⟨_, rfl⟩
    have HFA : Hid (∀ w, Calls Try.prog 35 #[.int .u64 (a : Int), .int .i64 0] w fun e w' => e = .returned (.int .u64 (b : Int)) ∧ w' = w) := hid (fun w => field_walk hb (by have := Ha.out; have := Hps.out.2.1; omega) (by decide) w)
    have Hb := hid hb
    clear hb
    go_upto_region 12 with fail
    refine wp_region_class_lastT W rfl (by kernel_rfl) (by kernel_rfl) (by kernel_rfl) H0.out ?_
    dsimp only [List.dropLast]
    repeat (go_big_quiet_step ((go_at_call 35; exact Calls.class_same (HFA.out _))))
    refine wpQuiet_nil ?_
    intro z
    have HZ := hid (HTT.out z)
    generalize W z = wz at HZ ⊢
    clear c3 H0 HTT HC hne HFA
    have HM4 := hid (HM3.out.below HZ.out)
    have HF4 := hid (HF3.out.trans (Fr.below HZ.out))
    have H5' := hid (fillLogged_walk HM4.out.gm (a := b) (s := s + 1) (by have := Ha.out; have := Hb.out; omega) q (by have := Hps.out.2.1; omega) (by have := Hps.out.2.1; omega) true)
    clear HM3 HF3 HZ
    go_wp2_with fail
    refine H5'.out.mono ?_
    rintro e5 w5 ⟨rfl, hm5, hf5⟩
    have hG : BM w5 ρ L T (newG G s n q) B := by
      have := HM4.out.ground hm5 (GL.Same.refl _) hf5
      unfold newG
      rw [Ha.out]
      exact this
    have HM5 := hid hG
    have HF5 := hid (HF4.out.trans hf5)
    clear H5' hm5 hf5 HM4 HF4 hG
    have c6 := HM5.out.fcell Hm.out
    obtain ⟨ax, cq, hv⟩ := (HM5.out.fr m Hm.out).shape
    rw [hv] at c6
    have HV := hid hv
    obtain ⟨k, hk⟩ : ∃ k, (B.fresh m).length = k := ⟨_, rfl⟩
    have Hk := hid hk
    rw [hk] at c6
    clear hv hk
    go_wp2_with (at_builtin; refine stopHere ?_)
    intro _
    obtain ⟨wf, hwf⟩ : ∃ wf, w5.alloc (.cells #[.int .u64 (a : Int)] 48) = wf := ⟨_, rfl⟩
    have HBf : Hid (Below w5.heap.size w5 wf) := hid (by rw [← hwf]; exact nbel w5 _)
    have HNw : Hid (∀ ad, some (⟨w5.heap.size, 0, none⟩ : Addr) = some ad → ∀ j u, ([a].flatMap rtA.f)[j]? = some u → wf.cell? (ad.add j) = some u) := hid (by rw [← hwf]; exact newX rtA w5 a _ rfl)
    (try simp only [hwf])
    clear hwf c6
    have HHf := hid (HM5.out.below HBf.out)
    have hrf := HHf.out.fr m Hm.out
    rw [HV.out, Hk.out] at hrf
    refine wpList_app_x okA rfl _ _ hrf rfl [a] rfl (some ⟨w5.heap.size, 0, none⟩) 1 1 rfl rfl (fun h => by cases h) HNw.out (by have := Hf.out; show ((B.fresh m).length + 1) * 8 ≤ _; omega) ?_
    intro v8 w8 ρ8 hr8 hf8 _ _
    obtain ⟨a8, k8, h8⟩ := hr8.out.shape
    rw [List.length_append, List.length_singleton, Hk.out] at h8
    subst h8
    have HM8 := hid (HHf.out.setF Hm.out hf8.out hr8.out)
    have HF8 : Hid (Fr bX ρ w1 ρ8 (w8.setCell ⟨T.bB, 3 + m * 69 + 68, none⟩ (.slice a8 (k + 1) k8))) := hid (((HF5.out.mono (fun c => bX_g)).trans (Fr.below HBf.out)).trans (HM8.out.2.mono (fun c hc => by simp at hc; exact decide_eq_true (by have := Hm.out; omega))))
    have hk8 : w8.heap[T.bB]? = wf.heap[T.bB]? := hf8.out.blk _ HHf.out.bb.lt (by rw [HHf.out.rb]; show (12 == 16 + m) = false; simp; omega)
    have c8 : w8.cell? ⟨T.bB, 3 + m * 69 + 68, none⟩ = some (.slice ax k cq) := by rw [World.cell?_of_block hk8, ← Hk.out, ← HV.out]; exact HHf.out.fcell Hm.out
    have f8 : w8.frozen? ⟨T.bB, 3 + m * 69 + 68, none⟩ = false := by rw [World.frozen?_of_block hk8]; exact HHf.out.bb.frozen _
    have HR : Hid (AlP w1 ρ L T (alocS G B (m : Int) (n : Int) (q : Int)) (.returned (.tuple #[.int .u64 (a : Int), .int .u8 0])) (w8.setCell ⟨T.bB, 3 + m * 69 + 68, none⟩ (.slice a8 (k + 1) k8))) := hid (by
      rw [HX.out]
      exact ⟨by rw [Ha.out]; rfl, { T with fv := fup T.fv m (.slice a8 (k + 1) k8) }, ρ8, rfl, by rw [Ha.out]; exact HM8.out.1, HF8.out⟩)
    clear hrf hr8 hf8 hk8 HNw HHf HBf HF5 HM5 HM8 HF8 HX
    go_wp2
    exact bodyPost_ret (v := .tuple #[.int .u64 (a : Int), .int .u8 0]) (by simp [results, Try.results50, go_sem]) rfl HR.out
end
end Go.Proofs.Qxb6500888a
