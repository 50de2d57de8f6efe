/- Fields and options of a type in memory; partsTainted. -/
import Derived.Test.Qxb6500883aGreatDoorScKf
namespace Go.Proofs.Qxb6500883aGreatDoor
open Go.RowKit
set_option linter.unusedSimpArgs false
set_option linter.unusedVariables false
section
variable {τ τ' : Rl} {w w' w0 w1 w2 : World} {tB : Nat} {V V' : TV} {T T' : TS}
theorem TbM.fldR (h : TbM τ w tB V T) {x : TR} (hlo : x.lo < x.hi) (hhi : x.hi ≤ T.flds.length) : ∃ gf nF qF qx fo : Nat, V.f = .slice (some ⟨gf, 0, none⟩) nF qF ∧ gf < w.heap.size ∧ (∀ wz : World, (Instr.sliceAt 60 (.slice (some ⟨gf, 0, none⟩) nF qF) (some (.int .i32 (x.lo : Int))) (some (.int .i32 (x.hi : Int))) none).run Tryz.prog wz = .ok (.slice (some ⟨gf, fo, none⟩) (x.hi - x.lo) qx) wz) ∧ ∀ wz, Below w.heap.size w wz → ∀ (j : Nat) (f : FD), (flT T x)[j]? = some f → wz.cell? ⟨gf, fo + j * 2, none⟩ = some (.string f.name) ∧ wz.cell? ⟨gf, fo + j * 2 + 1, none⟩ = some (.int .i32 (f.typ : Int)) := by
  obtain ⟨aF, qF, hUF⟩ := h.f.shape
  have hcap := h.f
  rw [hUF] at hcap
  have hcq := hcap.cap
  obtain ⟨y0, hy0⟩ : ∃ y0, T.flds[x.lo]? = some y0 := ⟨_, List.getElem?_eq_getElem (by omega)⟩
  obtain ⟨gf, egf, hgl⟩ : ∃ gf, aF = some ⟨gf, 0, none⟩ ∧ gf < w.heap.size := by
    obtain ⟨gf, q', hv, hl, _⟩ := h.f.get (by decide) (fun _ => rfl) hy0
    rw [hUF] at hv
    injection hv with e1 e2 e3
    exact ⟨gf, e1, hl⟩
  subst egf
  refine ⟨gf, T.flds.length, qF, qF - x.lo, x.lo * 2, hUF, hgl, fun wz => ?_, fun wz hz j f hf => ?_⟩
  · have hsl := slice_fd (a := some ⟨gf, 0, none⟩) (n := T.flds.length) (cp := qF) (lo := x.lo) (hi := x.hi) (by omega) hhi hcq.2 hcq.1 (fun h => by cases h) wz
    have hax : subA (some ⟨gf, 0, none⟩) (x.lo * 2) (qF == x.lo) = some ⟨gf, x.lo * 2, none⟩ := by
      have hne : (qF == x.lo) = false := by rw [beq_eq_false_iff_ne]; have := hcq.2; omega
      generalize x.lo * 2 = fo
      unfold subA
      rw [hne]
      simp [Addr.add]
      intro h0
      exact h0.symm
    rw [hax] at hsl
    exact hsl
  · have hj2 := (List.getElem?_eq_some_iff.1 hf).1
    unfold flT at hf hj2
    rw [List.length_take, List.length_drop] at hj2
    rw [List.getElem?_take, if_pos (by omega), List.getElem?_drop] at hf
    obtain ⟨gf', q', hv, hlt', hc'⟩ := (h.below hz).f.get (by decide) (fun _ => rfl) hf
    rw [hUF] at hv
    injection hv with e1 e2 e3
    injection e1 with e1
    injection e1 with e1
    subst e1
    refine ⟨?_, ?_⟩
    · have := hc' 0 (by decide)
      rw [show (x.lo + j) * rtFd.n + 0 = x.lo * 2 + j * 2 by show (x.lo + j) * 2 + 0 = _; omega] at this
      exact this
    · have := hc' 1 (by decide)
      rw [show (x.lo + j) * rtFd.n + 1 = x.lo * 2 + j * 2 + 1 by show (x.lo + j) * 2 + 1 = _; omega] at this
      exact this
theorem TbM.optR (h : TbM τ w tB V T) {x : TR} (hlo : x.lo < x.hi) (hhi : x.hi ≤ T.opts.length) : ∃ gf nF qF qx : Nat, V.o = .slice (some ⟨gf, 0, none⟩) nF qF ∧ gf < w.heap.size ∧ (∀ wz : World, (Instr.sliceAt 58 (.slice (some ⟨gf, 0, none⟩) nF qF) (some (.int .i32 (x.lo : Int))) (some (.int .i32 (x.hi : Int))) none).run Tryz.prog wz = .ok (.slice (some ⟨gf, x.lo, none⟩) (x.hi - x.lo) qx) wz) ∧ ∀ wz, Below w.heap.size w wz → ∀ (j o : Nat), (opT T x)[j]? = some o → wz.cell? ⟨gf, x.lo + j, none⟩ = some (.int .i32 (o : Int)) := by
  obtain ⟨aF, qF, hUF⟩ := h.o.shape
  have hcap := h.o
  rw [hUF] at hcap
  have hcq := hcap.cap
  obtain ⟨y0, hy0⟩ : ∃ y0, T.opts[x.lo]? = some y0 := ⟨_, List.getElem?_eq_getElem (by omega)⟩
  obtain ⟨gf, egf, hgl⟩ : ∃ gf, aF = some ⟨gf, 0, none⟩ ∧ gf < w.heap.size := by
    obtain ⟨gf, q', hv, hl, _⟩ := h.o.get (by decide) (fun _ => rfl) hy0
    rw [hUF] at hv
    injection hv with e1 e2 e3
    exact ⟨gf, e1, hl⟩
  subst egf
  refine ⟨gf, T.opts.length, qF, qF - x.lo, hUF, hgl, fun wz => ?_, fun wz hz j o ho => ?_⟩
  · have hsl := slice_id (a := some ⟨gf, 0, none⟩) (n := T.opts.length) (cp := qF) (lo := x.lo) (hi := x.hi) (by omega) hhi hcq.2 hcq.1 (fun h => by cases h) wz
    have hax : subA (some ⟨gf, 0, none⟩) x.lo (qF == x.lo) = some ⟨gf, x.lo, none⟩ := by
      have hne : (qF == x.lo) = false := by rw [beq_eq_false_iff_ne]; have := hcq.2; omega
      unfold subA
      rw [hne]
      simp [Addr.add]
      intro h0
      exact h0.symm
    rw [hax] at hsl
    exact hsl
  · have hj2 := (List.getElem?_eq_some_iff.1 ho).1
    unfold opT at ho hj2
    rw [List.length_take, List.length_drop] at hj2
    rw [List.getElem?_take, if_pos (by omega), List.getElem?_drop] at ho
    obtain ⟨gf', q', hv, hlt', hc'⟩ := (h.below hz).o.get (by decide) (fun _ => rfl) ho
    rw [hUF] at hv
    injection hv with e1 e2 e3
    injection e1 with e1
    injection e1 with e1
    subst e1
    have := hc' 0 (by decide)
    rw [show (x.lo + j) * rtId.n + 0 = x.lo + j by show (x.lo + j) * 1 + 0 = _; omega] at this
    exact this
end
/-- The parts of a type. -/
def prtT (T : TS) (x : TR) : List Nat := if x.kind = 3 ∨ x.kind = 4 then [x.elem.toNat] else if x.kind = 7 then (flT T x).map (·.typ) else if x.kind = 8 then opT T x else []
def tnt (T : TS) (vd : Nat → Nat) (x : TR) : Bool := (prtT T x).any fun t => vd t != 0
theorem StrOk.prt {T : TS} {i : Nat} {x : TR} (h : StrOk T i x) : ∀ t ∈ prtT T x, t < i := by
  intro t ht
  unfold prtT at ht
  cases h with
  | @ser e h1 h2 h3 => rw [if_pos h1, h2] at ht; simp at ht; omega
  | bit h1 h2 => rw [if_neg (by omega), if_neg (by omega), if_neg (by omega)] at ht; cases ht
  | con h1 h2 h3 h4 =>
    rw [if_neg (by omega), if_pos h1] at ht
    obtain ⟨f, hf, rfl⟩ := List.mem_map.1 ht
    exact h4 f hf
  | uni h1 h2 h3 h4 => rw [if_neg (by omega), if_neg (by omega), if_pos h1] at ht; exact h4 t ht
section
variable {τ τ' : Rl} {w w' w0 w1 w2 : World} {tB : Nat} {V V' : TV} {T T' : TS}
abbrev RwV (g n : Nat) (f : Nat → Nat) (r : Nat) (ρ : Rl) (w : World) : Prop := RwK 185 (fun x : Nat => Value.int .u8 (x : Int)) g n f r ρ w
set_option maxRecDepth 100000 in
set_option maxHeartbeats 4000000 in
theorem partsTaintedW (h : TbM τ w tB V T) {i : Nat} {x : TR} (hx : T.types[i]? = some x) (hst : StrOk T i x) {gv : Nat} {vd : Nat → Nat} {σ : Rl} {rr : Nat} (hvd : RwV gv T.types.length vd rr σ w) (hl : T.types.length ≤ 200000) (hl1 : T.flds.length ≤ 200000) (hl2 : T.opts.length ≤ 200000) : Calls Tryz.prog 101 #[.pointer (some ⟨tB, 0, none⟩), .int .i32 (i : Int), .slice (some ⟨gv, 0, none⟩) T.types.length T.types.length] w fun e w' => e = .returned (.bool (tnt T vd x)) ∧ Below w.heap.size w w' := by
  obtain ⟨gt, q, hv, hgl, hgr, hc⟩ := h.ty hx
  have hlt := (List.getElem?_eq_some_iff.1 hx).1
  obtain ⟨nt, hnt⟩ : ∃ n, T.types.length = n := ⟨_, rfl⟩
  have i1 : (i : Int) < (nt : Int) := by omega
  have c0 : w.cell? ⟨tB, 0, none⟩ = some (.slice (some ⟨gt, 0, none⟩) nt q) := by rw [← hnt, ← hv]; exact h.b.cell 0
  have HC : Hid (∀ wz, Below w.heap.size w wz → ∀ j, j < 12 → wz.cell? ⟨gt, i * 12 + j, none⟩ = (trC x)[j]?) := hid (fun wz hz j hj => by rw [keepCell _ (hz.block gt hgl)]; exact hc j hj)
  have HVd : Hid (∀ wz, Below w.heap.size w wz → ∀ t, t < nt → wz.cell? ⟨gv, t, none⟩ = some (.int .u8 (vd t : Int))) := hid (fun wz hz t ht => by rw [keepCell _ (hz.block gv hvd.1.lt)]; exact hvd.get (by rw [hnt]; exact ht))
  have HTb : Hid (∀ wz, Below w.heap.size w wz → wz.cell? ⟨tB, 1, none⟩ = some V.f ∧ wz.cell? ⟨tB, 2, none⟩ = some V.o) := hid (fun wz hz => ⟨(h.below hz).b.cell 1, (h.below hz).b.cell 2⟩)
  have k0 : w.cell? ⟨gt, i * 12, none⟩ = some (.int .u8 (x.kind : Int)) := HC.out w (Below.refl _ _) 0 (by decide)
  rw [hnt]
  have hpr := hst.prt
  unfold tnt
  unfold prtT at hpr ⊢
  cases hst with
  | @ser e h1 h2 h3 =>
    as_aux_lemma =>
    rw [if_pos h1, h2]
    have hel : e < nt := by omega
    have i2 : (e : Int) < (nt : Int) := by omega
    have k3 : w.cell? ⟨gt, i * 12 + 3, none⟩ = some (.int .i32 (e : Int)) := by rw [← h2]; exact HC.out w (Below.refl _ _) 3 (by decide)
    have kv := HVd.out w (Below.refl _ _) e hel
    obtain ⟨ve, hve⟩ : ∃ a, vd e = a := ⟨_, rfl⟩
    have hres : ([((e : Int)).toNat].any fun t => vd t != 0) = (ve != 0) := by simp [hve]
    rw [hres]
    rw [hve] at kv
    have hb1 : ((ve : Int) != 0) = (ve != 0) := by
      by_cases h0 : ve = 0
      · subst h0; rfl
      · have : ((ve : Int) != 0) = true := by simp; omega
        rw [this]; simp [h0]
    obtain ⟨bb, hbb⟩ : ∃ b, (ve != 0) = b := ⟨_, rfl⟩
    rw [hbb] at hb1 ⊢
    clear hres hbb hve hpr hnt hlt hl HC HVd HTb hvd hx hc h2 h
    rcases h1 with h1 | h1
    · rw [h1] at k0
      clear h1
      go_enter Tryz.func101, Tryz.ntmps101
      go_wp2
      go_ret
      exact ⟨rfl, Below.refl _ _⟩
    · rw [h1] at k0
      clear h1
      go_enter Tryz.func101, Tryz.ntmps101
      go_wp2
      go_ret
      exact ⟨rfl, Below.refl _ _⟩
  | bit h1 h2 =>
    as_aux_lemma =>
    rw [if_neg (by omega), if_neg (by omega), if_neg (by omega)]
    clear hpr hnt hlt hl HC HVd HTb hvd hx hc h2 h
    rcases h1 with h1 | h1
    · rw [h1] at k0
      clear h1
      go_enter Tryz.func101, Tryz.ntmps101
      go_wp2
      go_ret
      exact ⟨rfl, Below.refl _ _⟩
    · rw [h1] at k0
      clear h1
      go_enter Tryz.func101, Tryz.ntmps101
      go_wp2
      go_ret
      exact ⟨rfl, Below.refl _ _⟩
  | con h1 h2 h3 h4 =>
    rw [if_neg (by omega), if_pos h1] at hpr ⊢
    obtain ⟨gf, nF, qF, qx, fo, hUF, hgf, hsl, hcl⟩ := h.fldR h2 h3
    obtain ⟨lo, hlo1⟩ : ∃ a, x.lo = a := ⟨_, rfl⟩
    obtain ⟨hi, hhi1⟩ : ∃ a, x.hi = a := ⟨_, rfl⟩
    obtain ⟨m, hm⟩ : ∃ m, hi - lo = m := ⟨_, rfl⟩
    rw [hlo1, hhi1, hm] at hsl
    have hol : (flT T x).length = m := by unfold flT; rw [List.length_take, List.length_drop]; omega
    have k4 : w.cell? ⟨gt, i * 12 + 4, none⟩ = some (.int .i32 (lo : Int)) := by rw [← hlo1]; exact HC.out w (Below.refl _ _) 4 (by decide)
    have k5 : w.cell? ⟨gt, i * 12 + 5, none⟩ = some (.int .i32 (hi : Int)) := by rw [← hhi1]; exact HC.out w (Below.refl _ _) 5 (by decide)
    have t2 : w.cell? ⟨tB, 1, none⟩ = some (.slice (some ⟨gf, 0, none⟩) nF qF) := by rw [← hUF]; exact (HTb.out w (Below.refl _ _)).1
    obtain ⟨os, hos⟩ : ∃ l, flT T x = l := ⟨_, rfl⟩
    rw [hos] at hcl hol hpr ⊢
    have Hcl := hid hcl
    have Hol := hid hol
    have Hpr := hid hpr
    have hmb : m ≤ 200000 := by omega
    rw [h1] at k0
    clear hos hpr hcl hol hlt hl HC HTb hvd hx hc h h1 h2 h3 h4 hlo1 hhi1 hm hUF
    go_enter Tryz.func101, Tryz.ntmps101
    go_upto_region 7 with fail
    obtain ⟨X0, W, hT, hI⟩ := class_mk (fun w' => Drew w w')
    have H0 : Hid (∃ y, w.drew = W y) := hid (hI _ ⟨1, rfl⟩)
    have hne : Nonempty X0 := ⟨H0.out.choose⟩
    have HTT := hid hT
    have a2 : ∀ z, (W z).cell? ⟨tB, 1, none⟩ = some (.slice (some ⟨gf, 0, none⟩) nF qF) := fun y => by obtain ⟨m, e⟩ := hT y; rw [e]; exact t2
    have a4 : ∀ z, (W z).cell? ⟨gt, i * 12 + 4, none⟩ = some (.int .i32 (lo : Int)) := fun y => by obtain ⟨m, e⟩ := hT y; rw [e]; exact k4
    have a5 : ∀ z, (W z).cell? ⟨gt, i * 12 + 5, none⟩ = some (.int .i32 (hi : Int)) := fun y => by obtain ⟨m, e⟩ := hT y; rw [e]; exact k5
    clear hT hI
    refine wp_region_class W (by kernel_rfl) (by kernel_rfl) H0.out ?_
    repeat (go_big_quiet_step (fail))
    refine wpQuiet_nil ?_
    intro z
    have HD := hid (HTT.out z)
    have HB := hid ((HTT.out z).below w.heap.size)
    have a2z := a2 z
    have a4z := a4 z
    have a5z := a5 z
    generalize W z = w1 at HD HB a2z a4z a5z ⊢
    clear H0 HTT a2 a4 a5
    have HB1 := HB
    clear HD HB a2z a4z a5z t2 k4 k5 hsl k0 c0
    go_upto_region 8 with fail
    go_loopw [49] (fun t wr => ∃ (j : Nat), t = .int .i64 (j : Int) ∧ j ≤ m ∧ Hid (Below w.heap.size w wr ∧ (((os.take j).map (·.typ)).any fun t => vd t != 0) = false)) (fun t _ => m - (intOf t).toNat)
    case atStart => exact ⟨0, rfl, Nat.zero_le _, hid ⟨HB1.out, rfl⟩⟩
    case round =>
    obtain ⟨j, rfl, hj, HI⟩ := hrel
    clear HB1
    by_cases hin : j < m
    rotate_left
    · have d1 : decide ((j : Int) < (m : Int)) = false := decide_eq_false (by omega)
      have hres : ((os.map (·.typ)).any fun t => vd t != 0) = false := by
        have := HI.out.2
        rw [List.take_of_length_le (by rw [Hol.out]; omega)] at this
        exact this
      have Hres := hid hres
      clear hres
      go_wp2
      go_ret
      exact ⟨by rw [Hres.out]; rfl, HI.out.1⟩
    have d1 : decide ((j : Int) < (m : Int)) = true := decide_eq_true (by omega)
    have i2 : (j : Int) < (m : Int) := by omega
    obtain ⟨f, hf⟩ : ∃ f, os[j]? = some f := ⟨_, List.getElem?_eq_getElem (by rw [Hol.out]; exact hin)⟩
    obtain ⟨f0, f1⟩ := Hcl.out wr HI.out.1 j f hf
    obtain ⟨nm, hnm⟩ : ∃ a, f.name = a := ⟨_, rfl⟩
    obtain ⟨o, ho⟩ : ∃ a, f.typ = a := ⟨_, rfl⟩
    rw [hnm] at f0
    rw [ho] at f1
    have holt : o < nt := by have := Hpr.out f.typ (List.mem_map_of_mem (List.mem_of_getElem? hf)); omega
    have i3 : (o : Int) < (nt : Int) := by omega
    have htk : os.take (j + 1) = os.take j ++ [f] := by rw [List.take_add_one, hf]; rfl
    obtain ⟨ve, hve⟩ : ∃ a, vd o = a := ⟨_, rfl⟩
    have HR : Hid ((ve = 0 → (((os.take (j + 1)).map (·.typ)).any fun t => vd t != 0) = false) ∧ (ve ≠ 0 → ((os.map (·.typ)).any fun t => vd t != 0) = true)) := hid ⟨fun hz => by rw [htk, List.map_append, List.any_append, HI.out.2]; simp [ho, hve, hz], fun hz => by
      rw [List.any_eq_true]
      exact ⟨f.typ, List.mem_map_of_mem (List.mem_of_getElem? hf), by rw [ho, hve]; simp [hz]⟩⟩
    obtain ⟨q9, hq9⟩ : ∃ q, wr.heap.size = q := ⟨_, rfl⟩
    have hbn := Blk.new wr [.string ⟨#[]⟩, .int .i32 0] 63
    rw [hq9] at hbn
    have HBn := hid hbn
    have Hone : Hid (∀ u ∈ fdC ⟨nm, o⟩, u.oneCell' = true) := hid (okFd.one ⟨nm, o⟩)
    have Hinf : Hid ((Tryz.prog.info? 63).map (·.size) = some 2) := hid (by kernel_rfl)
    clear hbn htk hf hnm ho
    go_upto_region 10 with (refine wpList_store_blk rfl 63 _ _ rfl q9 (by simp [Act.eval, hq9]) (fdC ⟨nm, o⟩) rfl HBn.out rfl Hinf.out Hone.out ?_; intro w6 HB6 HU6)
    (try simp only [Act.put])
    have Hb6 : Hid (Below w.heap.size w w6) := hid (by
      have h1 := HI.out.1
      have h2 := h1.trans ((nbel wr (.cells #[.string ⟨#[]⟩, .int .i32 0] 63)).mono h1.size)
      exact Below.updN h2 HU6.out (by have := h1.size; omega) h2.size)
    have g1 : w6.cell? ⟨q9, 1, none⟩ = some (.int .i32 (o : Int)) := HB6.out.cell 1
    have kv := HVd.out w6 Hb6.out o holt
    rw [hve] at kv
    clear HU6 HBn Hone Hinf HI f0 f1 hve HB6 hq9
    by_cases hz : ve = 0
    · have t1 : ((ve : Int) != 0) = false := by simp; omega
      have HE : Hid (Below w.heap.size w w6 ∧ (((os.take (j + 1)).map (·.typ)).any fun t => vd t != 0) = false) := hid ⟨Hb6.out, HR.out.1 hz⟩
      clear hz HR Hb6
      go_wp2
      exact ⟨⟨j + 1, by go_num, by omega, HE⟩, by simp [intOf]; omega⟩
    · have t1 : ((ve : Int) != 0) = true := by simp; omega
      have HB2 := hid (And.intro Hb6.out (HR.out.2 hz))
      clear hz HR Hb6
      go_wp2
      go_ret
      exact ⟨by rw [HB2.out.2]; rfl, HB2.out.1⟩
  | uni h1 h2 h3 h4 =>
    rw [if_neg (by omega), if_neg (by omega), if_pos h1] at hpr ⊢
    obtain ⟨gf, nF, qF, qx, hUF, hgf, hsl, hcl⟩ := h.optR h2 h3
    have hsl0 := hsl
    obtain ⟨lo, hlo1⟩ : ∃ a, x.lo = a := ⟨_, rfl⟩
    obtain ⟨hi, hhi1⟩ : ∃ a, x.hi = a := ⟨_, rfl⟩
    obtain ⟨m, hm⟩ : ∃ m, hi - lo = m := ⟨_, rfl⟩
    rw [hlo1, hhi1, hm] at hsl
    have hol : (opT T x).length = m := by unfold opT; rw [List.length_take, List.length_drop]; omega
    have k4 : w.cell? ⟨gt, i * 12 + 4, none⟩ = some (.int .i32 (lo : Int)) := by rw [← hlo1]; exact HC.out w (Below.refl _ _) 4 (by decide)
    have k5 : w.cell? ⟨gt, i * 12 + 5, none⟩ = some (.int .i32 (hi : Int)) := by rw [← hhi1]; exact HC.out w (Below.refl _ _) 5 (by decide)
    have t2 : w.cell? ⟨tB, 2, none⟩ = some (.slice (some ⟨gf, 0, none⟩) nF qF) := by rw [← hUF]; exact (HTb.out w (Below.refl _ _)).2
    obtain ⟨os, hos⟩ : ∃ l, opT T x = l := ⟨_, rfl⟩
    rw [hos] at hcl hol hpr ⊢
    rw [hlo1] at hcl
    have Hcl := hid hcl
    have Hol := hid hol
    have Hpr := hid hpr
    have hmb : m ≤ 200000 := by omega
    rw [h1] at k0
    clear hsl0 hos hpr hcl hol hlt hl HC HTb hvd hx hc h h1 h2 h3 h4 hlo1 hhi1 hm hUF
    go_enter Tryz.func101, Tryz.ntmps101
    go_upto_region 14 with fail
    obtain ⟨X0, W, hT, hI⟩ := class_mk (fun w' => Drew w w')
    have H0 : Hid (∃ y, w.drew = W y) := hid (hI _ ⟨1, rfl⟩)
    have hne : Nonempty X0 := ⟨H0.out.choose⟩
    have HTT := hid hT
    have a2 : ∀ z, (W z).cell? ⟨tB, 2, none⟩ = some (.slice (some ⟨gf, 0, none⟩) nF qF) := fun y => by obtain ⟨m, e⟩ := hT y; rw [e]; exact t2
    have a4 : ∀ z, (W z).cell? ⟨gt, i * 12 + 4, none⟩ = some (.int .i32 (lo : Int)) := fun y => by obtain ⟨m, e⟩ := hT y; rw [e]; exact k4
    have a5 : ∀ z, (W z).cell? ⟨gt, i * 12 + 5, none⟩ = some (.int .i32 (hi : Int)) := fun y => by obtain ⟨m, e⟩ := hT y; rw [e]; exact k5
    clear hT hI
    refine wp_region_class W (by kernel_rfl) (by kernel_rfl) H0.out ?_
    repeat (go_big_quiet_step (fail))
    refine wpQuiet_nil ?_
    intro z
    have HD := hid (HTT.out z)
    have HB := hid ((HTT.out z).below w.heap.size)
    have a2z := a2 z
    have a4z := a4 z
    have a5z := a5 z
    generalize W z = w1 at HD HB a2z a4z a5z ⊢
    clear H0 HTT a2 a4 a5
    have HB1 := HB
    clear HD HB a2z a4z a5z t2 k4 k5 hsl k0 c0
    go_upto_region 15 with fail
    go_loopw [76] (fun t wr => ∃ (j : Nat), t = .int .i64 (j : Int) ∧ j ≤ m ∧ Hid (Below w.heap.size w wr ∧ ((os.take j).any fun t => vd t != 0) = false)) (fun t _ => m - (intOf t).toNat)
    case atStart => exact ⟨0, rfl, Nat.zero_le _, hid ⟨HB1.out, rfl⟩⟩
    case round =>
    obtain ⟨j, rfl, hj, HI⟩ := hrel
    clear HB1
    by_cases hin : j < m
    rotate_left
    · have d1 : decide ((j : Int) < (m : Int)) = false := decide_eq_false (by omega)
      have hres : (os.any fun t => vd t != 0) = false := by
        have := HI.out.2
        rw [List.take_of_length_le (by rw [Hol.out]; omega)] at this
        exact this
      have Hres := hid hres
      clear hres
      go_wp2
      go_ret
      exact ⟨by rw [Hres.out]; rfl, HI.out.1⟩
    have d1 : decide ((j : Int) < (m : Int)) = true := decide_eq_true (by omega)
    have i2 : (j : Int) < (m : Int) := by omega
    obtain ⟨o, ho⟩ : ∃ o, os[j]? = some o := ⟨_, List.getElem?_eq_getElem (by rw [Hol.out]; exact hin)⟩
    have co := Hcl.out wr HI.out.1 j o ho
    have holt : o < nt := by have := Hpr.out o (List.mem_of_getElem? ho); omega
    have i3 : (o : Int) < (nt : Int) := by omega
    have kv := HVd.out wr HI.out.1 o holt
    have htk : os.take (j + 1) = os.take j ++ [o] := by rw [List.take_add_one, ho]; rfl
    have Hho := hid ho
    obtain ⟨ve, hve⟩ : ∃ a, vd o = a := ⟨_, rfl⟩
    rw [hve] at kv
    by_cases hz : ve = 0
    · have t1 : ((ve : Int) != 0) = false := by simp; omega
      have HE : Hid (Below w.heap.size w wr ∧ ((os.take (j + 1)).any fun t => vd t != 0) = false) := hid ⟨HI.out.1, by rw [htk, List.any_append, HI.out.2]; simp [hve, hz]⟩
      clear HI htk ho hve hz
      go_wp2
      exact ⟨⟨j + 1, by go_num, by omega, HE⟩, by simp [intOf]; omega⟩
    · have t1 : ((ve : Int) != 0) = true := by simp; omega
      have hres : (os.any fun t => vd t != 0) = true := by
        rw [List.any_eq_true]
        exact ⟨o, List.mem_of_getElem? ho, by rw [hve]; simp [hz]⟩
      have HB2 := hid (And.intro HI.out.1 hres)
      clear HI htk ho hve hz hres
      go_wp2
      go_ret
      exact ⟨by rw [HB2.out.2]; rfl, HB2.out.1⟩
end
end Go.Proofs.Qxb6500883aGreatDoor
