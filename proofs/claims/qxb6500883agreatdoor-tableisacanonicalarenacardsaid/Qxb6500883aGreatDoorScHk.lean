/- noteAliases. -/
import Derived.Test.Qxb6500883aGreatDoorScHj
namespace Go.Proofs.Qxb6500883aGreatDoor
open Go.RowKit
set_option linter.unusedSimpArgs false
set_option linter.unusedVariables false
/-- Made by a bracketed former. -/
def brk (k : Nat) : Bool := k == 3 || k == 4 || k == 5 || k == 6 || k == 8
def knd (T : TS) (i : Nat) : Nat := match T.types[i]? with | some x => x.kind | none => 0
/-- The first alias of each type among the first k declarations. -/
def alK (T : TS) : Nat → Nat → Int
  | 0 => fun _ => -1
  | k + 1 => match T.decls[k]? with
    | some d => if d.sort = 1 ∧ alK T k d.typ.toNat < 0 ∧ brk (knd T d.typ.toNat) = true then fup (alK T k) d.typ.toNat (k : Int) else alK T k
    | none => alK T k
theorem alK_succ {T : TS} {k : Nat} {d : DC} (h : T.decls[k]? = some d) : alK T (k + 1) = if d.sort = 1 ∧ alK T k d.typ.toNat < 0 ∧ brk (knd T d.typ.toNat) = true then fup (alK T k) d.typ.toNat (k : Int) else alK T k := by
  rw [alK, h]
theorem alK_rng (T : TS) : ∀ k i, alK T k i = -1 ∨ ∃ j : Nat, alK T k i = (j : Int) ∧ j < k
  | 0, i => .inl rfl
  | k + 1, i => by
    have ih : alK T k i = -1 ∨ ∃ j : Nat, alK T k i = (j : Int) ∧ j < k + 1 := by
      rcases alK_rng T k i with h1 | ⟨j, h1, h2⟩
      · exact .inl h1
      · exact .inr ⟨j, h1, by omega⟩
    cases hd : T.decls[k]? with
    | none => rw [alK, hd]; exact ih
    | some d =>
      rw [alK_succ hd]
      by_cases hc : d.sort = 1 ∧ alK T k d.typ.toNat < 0 ∧ brk (knd T d.typ.toNat) = true
      · rw [if_pos hc]
        by_cases h : i = d.typ.toNat
        · subst h; exact .inr ⟨k, fup_self _ _ _, by omega⟩
        · rw [fup_ne _ _ h]; exact ih
      · rw [if_neg hc]; exact ih
/-- The declarations' types are in range. -/
def DclT (T : TS) : Prop := ∀ d ∈ T.decls, d.sort = 1 → ∃ i : Nat, d.typ = (i : Int) ∧ i < T.types.length
def XA (r : Nat) : Bool := r == 50 || r == 62
section
variable {τ τ' : Rl} {w w' w1 w2 : World} {tB : Nat} {V V' : TV} {T T' : TS}
/-- Under way: the alias row holds f. -/
structure NoA (w0 : World) (τ0 : Rl) (tB : Nat) (V : TV) (T : TS) (ga : Nat) (f : Nat → Int) (τ : Rl) (w : World) : Prop where
  tb : TbM τ w tB { V with al := .slice (some ⟨ga, 0, none⟩) T.types.length T.types.length } T
  al : RwJ ga T.types.length f 62 τ w
  fr : Fr XA τ0 w0 τ w
theorem NoA.below {w0 : World} {τ0 : Rl} {ga : Nat} {f : Nat → Int} (h : NoA w0 τ0 tB V T ga f τ w) (hb : Below w.heap.size w w') : NoA w0 τ0 tB V T ga f τ w' := ⟨h.tb.below hb, h.al.below hb, h.fr.trans (Fr.below hb)⟩
theorem NoA.set {w0 : World} {τ0 : Rl} {ga j : Nat} {f : Nat → Int} (h : NoA w0 τ0 tB V T ga f τ w) (hj : j < T.types.length) (x : Int) : NoA w0 τ0 tB V T ga (fup f j x) τ (w.setCell ⟨ga, j, none⟩ (.int .i32 x)) := by
  have hf : Fr (fun r => r == 62) τ w τ (w.setCell ⟨ga, j, none⟩ (.int .i32 x)) := Fr.set _ (by show (τ ga == 62) = true; rw [h.al.2]; rfl)
  exact ⟨h.tb.fr hf (fun r h1 h2 => by simp; omega), h.al.set hj x, h.fr.trans (hf.one rfl)⟩
theorem NoA.updQ {w0 : World} {τ0 : Rl} {ga q : Nat} {f : Nat → Int} (h : NoA w0 τ0 tB V T ga f τ w) (hu : Upd q w w') (hq : τ q = 0) (h0 : w0.heap.size ≤ q) : NoA w0 τ0 tB V T ga f τ w' := by
  have hf : Fr (fun r => r == 0) τ w τ w' := Fr.upd hu (by show (τ q == 0) = true; rw [hq]; rfl)
  exact ⟨h.tb.fr hf (fun r h1 h2 => by simp; omega), h.al.fr hf rfl, h.fr.updN hu h0⟩
set_option maxRecDepth 100000 in
set_option maxHeartbeats 4000000 in
theorem noteAliasesW (h : TbM τ w tB V T) (hd : ∀ g, τ g ≠ 0 → g < w.heap.size) (hD : DclT T) (hl : T.types.length ≤ 1000000) (hl2 : T.decls.length ≤ 1000000) : Calls Tryz.prog 100 #[.pointer (some ⟨tB, 0, none⟩)] w fun e w' => e = .returned (.tuple #[]) ∧ Hid (∃ ga τ', NoA w τ tB V T ga (alK T T.decls.length) τ' w' ∧ w.heap.size ≤ ga) := by
  obtain ⟨nt, hnt⟩ : ∃ n, T.types.length = n := ⟨_, rfl⟩
  obtain ⟨nd, hnd⟩ : ∃ n, T.decls.length = n := ⟨_, rfl⟩
  have Hnt := hid hnt
  have Hnd := hid hnd
  rw [hnt] at hl
  rw [hnd] at hl2
  obtain ⟨at0, qt0, hvt⟩ := h.t.shape
  rw [hnt] at hvt
  have c0 : w.cell? ⟨tB, 0, none⟩ = some (.slice at0 nt qt0) := by rw [← hvt]; exact h.b.cell 0
  have c6 : w.cell? ⟨tB, 6, none⟩ = some V.al := h.b.cell 6
  have z6 : w.frozen? ⟨tB, 6, none⟩ = false := h.b.frozen 6
  have hmk : (Instr.makeSlice 91 (.int .i64 (nt : Int)) (.int .i64 (nt : Int))).run Tryz.prog w = .ok (.slice (some ⟨w.heap.size, 0, none⟩) nt nt) (w.alloc (.cells (madeCells #[.int .i32 0] nt) 21)) :=
    run_make_lc 91 21 (.int .i32 0) 4 Tryz.underlying91 (by kernel_rfl) rfl .i64 .i64 nt nt (Nat.le_refl _) (by omega) (by omega) w
  obtain ⟨ga, hga⟩ : ∃ p, w.heap.size = p := ⟨_, rfl⟩
  obtain ⟨wa, hwa⟩ : ∃ wa, w.alloc (.cells (madeCells #[.int .i32 0] nt) 21) = wa := ⟨_, rfl⟩
  rw [hga, hwa] at hmk
  have HA : Hid (TbM (fup τ ga 62) wa tB V T ∧ RwJ ga nt (fun _ => 0) 62 (fup τ ga 62) wa ∧ Fr XA τ w (fup τ ga 62) wa) := hid (by
    have hf := Fr.alloc (fun _ => false) τ w (.cells (madeCells #[.int .i32 0] nt) 21) 62
    have hn := RwK.new 21 (fun x : Int => Value.int .i32 x) τ w nt 62 0
    rw [hga] at hf hn
    rw [hwa] at hf
    have e : w.alloc (.cells (madeCells #[.int .i32 (0 : Int)] nt) 21) = wa := hwa
    rw [e] at hn
    exact ⟨h.fr hf (fun _ _ _ => rfl), hn, hf.mono (fun _ hc => by cases hc)⟩)
  have c6a : wa.cell? ⟨tB, 6, none⟩ = some V.al := HA.out.1.b.cell 6
  have z6a : wa.frozen? ⟨tB, 6, none⟩ = false := HA.out.1.b.frozen 6
  have HS : Hid (NoA w τ tB V T ga (fun _ => 0) (fup τ ga 62) (wa.setCell ⟨tB, 6, none⟩ (.slice (some ⟨ga, 0, none⟩) nt nt))) := hid (by
    obtain ⟨a1, a2, a3⟩ := HA.out
    have hf : Fr (fun r => r == 50) (fup τ ga 62) wa (fup τ ga 62) (wa.setCell ⟨tB, 6, none⟩ (.slice (some ⟨ga, 0, none⟩) nt nt)) := Fr.set _ (by show (fup τ ga 62 tB == 50) = true; rw [a1.rb]; rfl)
    refine ⟨?_, by rw [Hnt.out]; exact a2.fr hf rfl, a3.trans (hf.one rfl)⟩
    rw [Hnt.out]
    exact ⟨a1.b.set 6 _, a1.rb, a1.t.fr hf rfl, a1.f.fr hf rfl, a1.o.fr hf rfl, a1.d.fr hf rfl⟩)
  have Hga := hid hga
  have HD := hid hD
  have Hdom := hid hd
  clear h hd hD hnt hnd hvt HA
  go_enter Tryz.func100, Tryz.ntmps100
  go_upto_region 1 with fail
  generalize hws : wa.setCell _ _ = ws at HS ⊢
  clear hws c0 c6 z6 c6a z6a hmk hwa hga
  have d6 : ws.cell? ⟨tB, 6, none⟩ = some (.slice (some ⟨ga, 0, none⟩) nt nt) := by rw [← Hnt.out]; exact HS.out.tb.b.cell 6
  go_upto_region 2 with fail
  clear d6
  go_loopw [19] (fun t wr => ∃ (i : Nat), t = .int .i64 (i : Int) ∧ i ≤ nt ∧ Hid (NoA w τ tB V T ga (fun j => if j < i then -1 else 0) (fup τ ga 62) wr)) (fun t _ => nt - (intOf t).toNat)
  case atStart => exact ⟨0, rfl, Nat.zero_le _, hid (by simpa using HS.out)⟩
  case round =>
  obtain ⟨i, rfl, hi2, HI⟩ := hrel
  by_cases hin : i < nt
  · as_aux_lemma =>
    have d1 : decide ((i : Int) < (nt : Int)) = true := decide_eq_true (by omega)
    have i1 : (i : Int) < (nt : Int) := by omega
    have d6 : wr.cell? ⟨tB, 6, none⟩ = some (.slice (some ⟨ga, 0, none⟩) nt nt) := by rw [← Hnt.out]; exact HI.out.tb.b.cell 6
    have hin' : i < T.types.length := by rw [Hnt.out]; exact hin
    have cz := HI.out.al.get hin'
    have cf := HI.out.al.frozen i
    have HE : Hid (NoA w τ tB V T ga (fun j => if j < i + 1 then -1 else 0) (fup τ ga 62) (wr.setCell ⟨ga, i, none⟩ (.int .i32 (-1)))) := hid (by
      have := HI.out.set hin' (-1)
      have e : fup (fun j => if j < i then (-1 : Int) else 0) i (-1) = fun j => if j < i + 1 then -1 else 0 := by
        funext j
        by_cases hj : j = i
        · subst hj; rw [fup_self, if_pos (by omega)]
        · rw [fup_ne _ _ hj]
          by_cases h1 : j < i
          · rw [if_pos h1, if_pos (by omega)]
          · rw [if_neg h1, if_neg (by omega)]
      rw [e] at this
      exact this)
    clear HI hin' HS
    go_wp2
    exact ⟨⟨i + 1, by go_num, by omega, HE⟩, by simp [intOf]; omega⟩
  have d1 : decide ((i : Int) < (nt : Int)) = false := decide_eq_false (by omega)
  have HS2 : Hid (NoA w τ tB V T ga (alK T 0) (fup τ ga 62) wr) := hid (by
    have h1 := HI.out
    exact ⟨h1.tb, h1.al.congr (fun j hj => by rw [if_pos (by rw [Hnt.out] at hj; omega)]; rfl), h1.fr⟩)
  clear HI HS
  obtain ⟨ad, qd, hvd⟩ := HS2.out.tb.d.shape
  rw [Hnd.out] at hvd
  have Hvd := hid hvd
  have c3 : wr.cell? ⟨tB, 3, none⟩ = some (.slice ad nd qd) := by rw [← hvd]; exact HS2.out.tb.b.cell 3
  clear hvd
  go_upto_region 7 with fail
  clear c3
  rename_i wq
  go_loopw [34] (fun t wr => ∃ (i : Nat), t = .int .i64 (i : Int) ∧ i ≤ nd ∧ Hid (NoA w τ tB V T ga (alK T i) (fup τ ga 62) wr)) (fun t _ => nd - (intOf t).toNat)
  case atStart => exact ⟨0, rfl, Nat.zero_le _, HS2⟩
  case round =>
  obtain ⟨i, rfl, hi2, HI⟩ := hrel
  clear HS2
  by_cases hin : i < nd
  rotate_left
  · as_aux_lemma =>
    have d1 : decide ((i : Int) < (nd : Int)) = false := decide_eq_false (by omega)
    have hie : i = nd := by omega
    have HF : Hid (∃ ga τ', NoA w τ tB V T ga (alK T T.decls.length) τ' wr ∧ w.heap.size ≤ ga) := hid ⟨ga, _, by rw [Hnd.out, ← hie]; exact HI.out, by rw [Hga.out]; exact Nat.le_refl _⟩
    clear HI hie
    go_wp2
    exact bodyPost_end (v := .tuple #[]) (by simp [results, Tryz.results100, go_sem]) rfl ⟨rfl, HF⟩
  have d1 : decide ((i : Int) < (nd : Int)) = true := decide_eq_true (by omega)
  have i1 : (i : Int) < (nd : Int) := by omega
  obtain ⟨x, hx⟩ : ∃ x, T.decls[i]? = some x := ⟨_, List.getElem?_eq_getElem (by rw [Hnd.out]; exact hin)⟩
  obtain ⟨gd, qd', hvd', _, hcd⟩ := HI.out.tb.d.get (by decide) (fun _ => rfl) hx
  have hvd' : V.d = .slice (some ⟨gd, 0, none⟩) T.decls.length qd' := hvd'
  have Hvd2 : V.d = .slice ad nd qd := Hvd.out
  rw [Hvd2] at hvd'
  injection hvd' with e1 e2 e3
  have e1 := e1
  subst e1
  clear e2 e3 Hvd2
  have y0 : wr.cell? ⟨gd, i * 4, none⟩ = some (.int .u8 (x.sort : Int)) := hcd 0 (show 0 < 4 by decide)
  have y1 : wr.cell? ⟨gd, i * 4 + 1, none⟩ = some (.string x.name) := hcd 1 (show 1 < 4 by decide)
  have y2 : wr.cell? ⟨gd, i * 4 + 2, none⟩ = some (.int .u64 (x.value : Int)) := hcd 2 (show 2 < 4 by decide)
  have y3 : wr.cell? ⟨gd, i * 4 + 3, none⟩ = some (.int .i32 x.typ) := hcd 3 (show 3 < 4 by decide)
  clear hcd
  obtain ⟨q, hq⟩ : ∃ q, wr.heap.size = q := ⟨_, rfl⟩
  have hbn := Blk.new wr [.int .u8 0, .string ⟨#[]⟩, .int .u64 0, .int .i32 0] 75
  rw [hq] at hbn
  have HBn := hid hbn
  have HBa := hid (nbel wr (.cells #[.int .u8 0, .string ⟨#[]⟩, .int .u64 0, .int .i32 0] 75))
  have Hone : Hid (∀ u ∈ dcC x, u.oneCell' = true) := hid (okDc.one x)
  have Hinf : Hid ((Tryz.prog.info? 75).map (·.size) = some 4) := hid (by kernel_rfl)
  have Hx := hid hx
  clear hbn hx
  go_upto_region 9 with (refine wpList_store_blk rfl 75 _ _ rfl q (by simp [Act.eval, hq]) (dcC x) rfl HBn.out rfl Hinf.out Hone.out ?_; intro w6 HB6 HU6)
  (try simp only [Act.put])
  have H6 : Hid (NoA w τ tB V T ga (alK T i) (fup τ ga 62) w6) := hid ((HI.out.below HBa.out).updQ HU6.out (by
    have hlt := HI.out.al.1.lt
    rw [fup_ne _ _ (by omega)]
    have := HI.out.fr.size
    cases hz : τ q with
    | zero => rfl
    | succ z => have := Hdom.out q (by rw [hz]; exact Nat.succ_ne_zero z); omega) (by have := HI.out.fr.size; omega))
  clear HU6 HBn HBa Hone Hinf HI y0 y1 y2 y3 hq
  have q0 : w6.cell? ⟨q, 0, none⟩ = some (.int .u8 (x.sort : Int)) := HB6.out.cell 0
  by_cases hs : x.sort = 1
  rotate_left
  · as_aux_lemma =>
    have t1 : ((x.sort : Int) != 1) = true := by simp; omega
    have HE : Hid (∀ wy, Below w6.heap.size w6 wy → NoA w τ tB V T ga (alK T (i + 1)) (fup τ ga 62) wy) := hid (fun wy hy => by
      have e : alK T (i + 1) = alK T i := by rw [alK_succ Hx.out, if_neg (fun h => hs h.1)]
      rw [e]
      exact H6.out.below hy)
    clear H6 HB6 hs
    obtain ⟨X0, W, hT, hI⟩ := class_mk (fun w' => Drew w6 w')
    have H0 : Hid (∃ y, w6.drew = W y) := hid (hI _ ⟨1, rfl⟩)
    have hne : Nonempty X0 := ⟨H0.out.choose⟩
    have HTT := hid hT
    have a0 : ∀ z, (W z).cell? ⟨q, 0, none⟩ = some (.int .u8 (x.sort : Int)) := fun y => by obtain ⟨m, e⟩ := hT y; rw [e]; exact q0
    clear hT hI
    refine wp_region_class W (by kernel_rfl) (by kernel_rfl) H0.out ?_
    repeat (go_big_quiet_step (fail))
    refine wpQuiet_nil ?_
    intro z
    have HD := hid (HTT.out z)
    have HB := hid ((HTT.out z).below w6.heap.size)
    have a0z := a0 z
    generalize W z = w7 at HD HB a0z ⊢
    clear H0 HTT a0
    have HF := hid (HE.out w7 HB.out)
    clear HE HD HB a0z q0
    go_wp2
    exact ⟨⟨i + 1, by go_num, by omega, HF⟩, by simp [intOf]; omega⟩
  obtain ⟨t, ht, htl⟩ := HD.out x (List.mem_of_getElem? Hx.out) hs
  rw [Hnt.out] at htl
  have hsI : (x.sort : Int) = 1 := by omega
  rw [hsI] at q0
  have q3 : w6.cell? ⟨q, 3, none⟩ = some (.int .i32 (t : Int)) := by rw [← ht]; exact HB6.out.cell 3
  have d6 : w6.cell? ⟨tB, 6, none⟩ = some (.slice (some ⟨ga, 0, none⟩) nt nt) := by rw [← Hnt.out]; exact H6.out.tb.b.cell 6
  have ca := H6.out.al.get (j := t) (by rw [Hnt.out]; exact htl)
  have i2 : (t : Int) < (nt : Int) := by omega
  have Ht := hid (And.intro hs ht)
  have htn : x.typ.toNat = t := by rw [ht]; simp
  have Htn := hid htn
  clear hsI hs ht htn
  rcases alK_rng T i t with hal | ⟨j, hal, hji⟩
  rotate_left
  · as_aux_lemma =>
    have HE : Hid (∀ wy, Below w6.heap.size w6 wy → NoA w τ tB V T ga (alK T (i + 1)) (fup τ ga 62) wy) := hid (fun wy hy => by
      have e : alK T (i + 1) = alK T i := by rw [alK_succ Hx.out, if_neg (fun h => by rw [Htn.out, hal] at h; omega)]
      rw [e]
      exact H6.out.below hy)
    rw [hal] at ca
    have t2 : decide ((j : Int) ≥ 0) = true := decide_eq_true (by omega)
    clear H6 HB6 hal
    obtain ⟨X0, W, hT, hI⟩ := class_mk (fun w' => Drew w6 w')
    have H0 : Hid (∃ y, w6.drew = W y) := hid (hI _ ⟨1, rfl⟩)
    have hne : Nonempty X0 := ⟨H0.out.choose⟩
    have HTT := hid hT
    have a0 : ∀ z, (W z).cell? ⟨q, 0, none⟩ = some (.int .u8 1) := fun y => by obtain ⟨m, e⟩ := hT y; rw [e]; exact q0
    have a3 : ∀ z, (W z).cell? ⟨q, 3, none⟩ = some (.int .i32 (t : Int)) := fun y => by obtain ⟨m, e⟩ := hT y; rw [e]; exact q3
    have a6 : ∀ z, (W z).cell? ⟨tB, 6, none⟩ = some (.slice (some ⟨ga, 0, none⟩) nt nt) := fun y => by obtain ⟨m, e⟩ := hT y; rw [e]; exact d6
    have aa : ∀ z, (W z).cell? ⟨ga, t, none⟩ = some (.int .i32 (j : Int)) := fun y => by obtain ⟨m, e⟩ := hT y; rw [e]; exact ca
    clear hT hI
    refine wp_region_class W (by kernel_rfl) (by kernel_rfl) H0.out ?_
    repeat (go_big_quiet_step (fail))
    refine wpQuiet_nil ?_
    intro z
    have HD := hid (HTT.out z)
    have HB := hid ((HTT.out z).below w6.heap.size)
    have a0z := a0 z
    have a3z := a3 z
    have a6z := a6 z
    have aaz := aa z
    generalize W z = w7 at HD HB a0z a3z a6z aaz ⊢
    clear H0 HTT a0 a3 a6 aa
    have HF := hid (HE.out w7 HB.out)
    clear HE HD HB a0z a3z a6z aaz q0 q3 d6 ca
    go_wp2
    exact ⟨⟨i + 1, by go_num, by omega, HF⟩, by simp [intOf]; omega⟩
  rw [hal] at ca
  obtain ⟨y, hy⟩ : ∃ y, T.types[t]? = some y := ⟨_, List.getElem?_eq_getElem (by rw [Hnt.out]; exact htl)⟩
  obtain ⟨gt, qt', hvt', _, hct⟩ := H6.out.tb.t.get (by decide) (fun _ => rfl) hy
  have hvt' : V.t = .slice (some ⟨gt, 0, none⟩) T.types.length qt' := hvt'
  rw [Hnt.out] at hvt'
  have c0 : w6.cell? ⟨tB, 0, none⟩ = some (.slice (some ⟨gt, 0, none⟩) nt qt') := by rw [← hvt']; exact H6.out.tb.b.cell 0
  have ck : w6.cell? ⟨gt, t * 12, none⟩ = some (.int .u8 (y.kind : Int)) := hct 0 (show 0 < 12 by decide)
  have hknd : knd T t = y.kind := by unfold knd; rw [hy]
  obtain ⟨kd, hkd⟩ : ∃ kd, y.kind = kd := ⟨_, rfl⟩
  rw [hkd] at ck hknd
  have HNo : Hid (∀ wy, Below w6.heap.size w6 wy → brk kd = false → NoA w τ tB V T ga (alK T (i + 1)) (fup τ ga 62) wy) := hid (fun wy hy hb => by
    have e : alK T (i + 1) = alK T i := by rw [alK_succ Hx.out, if_neg (fun h => by rw [Htn.out, hknd, hb] at h; exact absurd h.2.2 (by decide))]
    rw [e]
    exact H6.out.below hy)
  have HYe : Hid (∀ wy, Below w6.heap.size w6 wy → brk kd = true → NoA w τ tB V T ga (alK T (i + 1)) (fup τ ga 62) (wy.setCell ⟨ga, t, none⟩ (.int .i32 (i : Int)))) := hid (fun wy hy hb => by
    have e : alK T (i + 1) = fup (alK T i) t (i : Int) := by rw [alK_succ Hx.out, if_pos ⟨Ht.out.1, by rw [Htn.out, hal]; omega, by rw [Htn.out, hknd]; exact hb⟩, Htn.out]
    rw [e]
    exact (H6.out.below hy).set (by rw [Hnt.out]; exact htl) _)
  have zf : w6.frozen? ⟨ga, t, none⟩ = false := H6.out.al.frozen t
  clear hct hvt' hy hkd hknd hal H6 HB6
  obtain ⟨X0, W, hT, hI⟩ := class_mk (fun w' => Drew w6 w')
  have H0 : Hid (∃ y, w6.drew = W y) := hid (hI _ ⟨1, rfl⟩)
  have hne : Nonempty X0 := ⟨H0.out.choose⟩
  have HTT := hid hT
  have a0 : ∀ z, (W z).cell? ⟨q, 0, none⟩ = some (.int .u8 1) := fun y => by obtain ⟨m, e⟩ := hT y; rw [e]; exact q0
  have a3 : ∀ z, (W z).cell? ⟨q, 3, none⟩ = some (.int .i32 (t : Int)) := fun y => by obtain ⟨m, e⟩ := hT y; rw [e]; exact q3
  have a6 : ∀ z, (W z).cell? ⟨tB, 6, none⟩ = some (.slice (some ⟨ga, 0, none⟩) nt nt) := fun y => by obtain ⟨m, e⟩ := hT y; rw [e]; exact d6
  have aa : ∀ z, (W z).cell? ⟨ga, t, none⟩ = some (.int .i32 (-1)) := fun y => by obtain ⟨m, e⟩ := hT y; rw [e]; exact ca
  have ac : ∀ z, (W z).cell? ⟨tB, 0, none⟩ = some (.slice (some ⟨gt, 0, none⟩) nt qt') := fun y => by obtain ⟨m, e⟩ := hT y; rw [e]; exact c0
  have ak : ∀ z, (W z).cell? ⟨gt, t * 12, none⟩ = some (.int .u8 (kd : Int)) := fun y => by obtain ⟨m, e⟩ := hT y; rw [e]; exact ck
  have az : ∀ z, (W z).frozen? ⟨ga, t, none⟩ = false := fun y => by obtain ⟨m, e⟩ := hT y; rw [e]; exact zf
  clear hT hI
  refine wp_region_class W (by kernel_rfl) (by kernel_rfl) H0.out ?_
  repeat (go_big_quiet_step (fail))
  refine wpQuiet_nil ?_
  intro z
  have HD := hid (HTT.out z)
  have HB := hid ((HTT.out z).below w6.heap.size)
  have a0z := a0 z
  have a3z := a3 z
  have a6z := a6 z
  have aaz := aa z
  have acz := ac z
  have akz := ak z
  have azz := az z
  generalize W z = w7 at HD HB a0z a3z a6z aaz acz akz azz ⊢
  clear H0 HTT a0 a3 a6 aa ac ak az
  have HB7 := HB
  clear HD q0 q3 d6 ca c0 ck zf HB
  go_upto_region 10 with fail
  obtain ⟨X0, W, hT, hI⟩ := class_mk (fun w' => Drew w7 w')
  have H0 : Hid (∃ y, w7.drew = W y) := hid (hI _ ⟨1, rfl⟩)
  have hne : Nonempty X0 := ⟨H0.out.choose⟩
  have HTT := hid hT
  have b3 : ∀ z, (W z).cell? ⟨q, 3, none⟩ = some (.int .i32 (t : Int)) := fun y => by obtain ⟨m, e⟩ := hT y; rw [e]; exact a3z
  have b6 : ∀ z, (W z).cell? ⟨tB, 6, none⟩ = some (.slice (some ⟨ga, 0, none⟩) nt nt) := fun y => by obtain ⟨m, e⟩ := hT y; rw [e]; exact a6z
  have ba : ∀ z, (W z).cell? ⟨ga, t, none⟩ = some (.int .i32 (-1)) := fun y => by obtain ⟨m, e⟩ := hT y; rw [e]; exact aaz
  have bc : ∀ z, (W z).cell? ⟨tB, 0, none⟩ = some (.slice (some ⟨gt, 0, none⟩) nt qt') := fun y => by obtain ⟨m, e⟩ := hT y; rw [e]; exact acz
  have bk : ∀ z, (W z).cell? ⟨gt, t * 12, none⟩ = some (.int .u8 (kd : Int)) := fun y => by obtain ⟨m, e⟩ := hT y; rw [e]; exact akz
  have bz : ∀ z, (W z).frozen? ⟨ga, t, none⟩ = false := fun y => by obtain ⟨m, e⟩ := hT y; rw [e]; exact azz
  clear hT hI
  refine wp_region_class W (by kernel_rfl) (by kernel_rfl) H0.out ?_
  repeat (go_big_quiet_step (fail))
  refine wpQuiet_nil ?_
  intro z
  have HD := hid (HTT.out z)
  have HB := hid ((HTT.out z).below w7.heap.size)
  have b3z := b3 z
  have b6z := b6 z
  have baz := ba z
  have bcz := bc z
  have bkz := bk z
  have bzz := bz z
  generalize W z = w8 at HD HB b3z b6z baz bcz bkz bzz ⊢
  clear H0 HTT b3 b6 ba bc bk bz
  have HB8 := hid (HB7.out.trans (HB.out.mono HB7.out.size))
  clear HD HB HB7 a0z a3z a6z aaz acz akz azz
  by_cases hb : brk kd = true
  · have hw : IntKind.i32.wrap (i : Int) = (i : Int) := by rw [IntKind.wrap_i32]; omega
    rcases (by unfold brk at hb; simp at hb; omega : kd = 3 ∨ kd = 4 ∨ kd = 5 ∨ kd = 6 ∨ kd = 8) with rfl | rfl | rfl | rfl | rfl
    all_goals (
      as_aux_lemma =>
      have HY := hid (fun wy (hy : Below w8.heap.size w8 wy) => HYe.out wy (HB8.out.trans (hy.mono HB8.out.size)) hb)
      clear HYe HNo HB8 hb bkz bcz
      go_upto_region 16 with fail
      obtain ⟨X0, W, hT, hI⟩ := class_mk (fun w' => Drew w8 w')
      have H0 : Hid (∃ y, w8.drew = W y) := hid (hI _ ⟨1, rfl⟩)
      have hne : Nonempty X0 := ⟨H0.out.choose⟩
      have HTT := hid hT
      have e3 : ∀ z, (W z).cell? ⟨q, 3, none⟩ = some (.int .i32 (t : Int)) := fun y => by obtain ⟨m, e⟩ := hT y; rw [e]; exact b3z
      have e6 : ∀ z, (W z).cell? ⟨tB, 6, none⟩ = some (.slice (some ⟨ga, 0, none⟩) nt nt) := fun y => by obtain ⟨m, e⟩ := hT y; rw [e]; exact b6z
      have ea : ∀ z, (W z).cell? ⟨ga, t, none⟩ = some (.int .i32 (-1)) := fun y => by obtain ⟨m, e⟩ := hT y; rw [e]; exact baz
      have ez : ∀ z, (W z).frozen? ⟨ga, t, none⟩ = false := fun y => by obtain ⟨m, e⟩ := hT y; rw [e]; exact bzz
      clear hT hI
      refine wp_region_class_tailT W 8 (by kernel_rfl) (by kernel_rfl) (by kernel_rfl) H0.out ?_
      dsimp only [List.take, List.drop]
      repeat (go_big_quiet_step (fail))
      refine wpQuiet_nil ?_
      intro z
      have HD := hid (HTT.out z)
      have HB := hid ((HTT.out z).below w8.heap.size)
      have e3z := e3 z
      have e6z := e6 z
      have eaz := ea z
      have ezz := ez z
      generalize W z = w9 at HD HB e3z e6z eaz ezz ⊢
      clear H0 HTT e3 e6 ea ez
      have HF := hid (HY.out w9 HB.out)
      clear HY HD HB b3z b6z baz bzz
      go_wp2
      exact ⟨⟨i + 1, by go_num, by omega, HF⟩, by simp [intOf]; omega⟩)
  · as_aux_lemma =>
    have HF := hid (HNo.out w8 HB8.out (by simpa using hb))
    have hk : ¬ (kd = 3) ∧ ¬ (kd = 4) ∧ ¬ (kd = 5) ∧ ¬ (kd = 6) ∧ ¬ (kd = 8) := by
      unfold brk at hb
      simp at hb
      omega
    have k3 : ((kd : Int) == 3) = false := by simp; omega
    have k4 : ((kd : Int) == 4) = false := by simp; omega
    have k5 : ((kd : Int) == 5) = false := by simp; omega
    have k6 : ((kd : Int) == 6) = false := by simp; omega
    have k8 : ((kd : Int) == 8) = false := by simp; omega
    clear HYe HNo HB8 hb hk
    go_wp2
    exact ⟨⟨i + 1, by go_num, by omega, HF⟩, by simp [intOf]; omega⟩
end
end Go.Proofs.Qxb6500883aGreatDoor
