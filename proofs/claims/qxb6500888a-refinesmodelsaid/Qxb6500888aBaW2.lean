/- The law's world: number, refuse, give, playNamed. -/
import Derived.Test.Qxb6500888aBaW1
namespace Go.Proofs.Qxb6500888a
open Go.RowKit
set_option linter.unusedSimpArgs false
set_option linter.unusedVariables false

structure OpP where
  kind : Nat
  m : Nat
  a : Nat
  b : Nat
  c : Nat
def opC (o : OpP) : List Value := [.int .u8 (o.kind : Int), .int .u8 (o.m : Int), .int .u64 (o.a : Int), .int .u64 (o.b : Int), .int .u64 (o.c : Int)]
def rzC (c v : Nat) : List Value := [.int .u8 (c : Int), .int .u64 (v : Int), .slice none 0 0, .slice none 0 0, .slice none 0 0, .slice none 0 0, .slice none 0 0, .slice none 0 0, .slice none 0 0, .slice none 0 0]
theorem rz_one (c v : Nat) : ∀ u ∈ rzC c v, u.oneCell' = true := fun u hu => by
  simp [rzC] at hu
  rcases hu with rfl | rfl | rfl | rfl <;> rfl
theorem info_rz : (Try.prog.info? 38).map (·.size) = some 10 := by kernel_rfl
theorem aggRz : AggOf Try.prog 38 10 := AggOf.struct Try.underlying38 info_rz
def numX (v : Nat) : Int := wrap64 (v : Int)
set_option maxRecDepth 100000 in
theorem number_walk (v : Nat) (w : World) : Calls Try.prog 51 #[.int .u64 (v : Int)] w fun e w' => e = .returned (.int .i64 (numX v)) ∧ w' = w := by
  go_enter Try.func51, Try.ntmps51
  go_wp2
  go_ret
  exact ⟨rfl, rfl⟩
set_option maxRecDepth 100000 in
theorem refuse_walk (c : Nat) (w : World) : Calls Try.prog 49 #[.int .u8 (c : Int)] w fun e w' => e = .returned (.agg (rzC c 0).toArray) ∧ Below w.heap.size w w' := by
  obtain ⟨r, hr⟩ : ∃ r, w.heap.size = r := ⟨_, rfl⟩
  have hb := Blk.new w (rzC 0 0) 38
  rw [hr] at hb
  have HB := hid hb
  have I0 := hid info_rz
  clear hb
  go_enter Try.func49, Try.ntmps49
  go_wp2_with (refine wpList_store_blk rfl 38 _ _ rfl r rfl (rzC c 0) rfl HB.out rfl I0.out (rz_one c 0) ?_; intro w9 HB9 HU9)
  exact bodyPost_ret (results_blk (cs := rzC c 0) Try.results49 rfl aggRz HB9.out) rfl ⟨rfl, (nbel w _).trans (HU9.out.below (by omega) (by simp))⟩
def giv (v c : Nat) : Nat × Nat := if c = 0 then (0, v) else (c, 0)
set_option maxRecDepth 100000 in
theorem give_walk (v c : Nat) (w : World) : Calls Try.prog 52 #[.int .u64 (v : Int), .int .u8 (c : Int)] w fun e w' => e = .returned (.agg (rzC (giv v c).1 (giv v c).2).toArray) ∧ Below w.heap.size w w' := by
  obtain ⟨r, hr⟩ : ∃ r, w.heap.size = r := ⟨_, rfl⟩
  have hb := Blk.new w (rzC 0 0) 38
  have hbe := nbel w (.cells (rzC 0 0).toArray 38)
  unfold giv
  by_cases hc : c = 0
  · subst hc
    rw [if_pos rfl]
    rw [hr] at hb
    have HB := hid hb
    have I0 := hid info_rz
    clear hb hbe
    go_enter Try.func52, Try.ntmps52
    go_wp2_with (refine wpList_store_blk rfl 38 _ _ rfl r rfl (rzC 0 v) rfl HB.out rfl I0.out (rz_one 0 v) ?_; intro w9 HB9 HU9)
    exact bodyPost_ret (results_blk (cs := rzC 0 v) Try.results52 rfl aggRz HB9.out) rfl ⟨rfl, (nbel w _).trans (HU9.out.below (by omega) (by simp))⟩
  · rw [if_neg hc]
    obtain ⟨wq, hwq⟩ : ∃ wq, w.alloc (.cells (rzC 0 0).toArray 38) = wq := ⟨_, rfl⟩
    rw [hwq] at hb hbe
    rw [hr] at hb
    have hsz : wq.heap.size = r + 1 := by rw [← hwq]; simp [hr]
    have HB := hid hb
    have HBe := hid hbe
    have dc : ((c : Int) != 0) = true := by simp; omega
    have HRf := hid (refuse_walk c wq)
    have I0 := hid info_rz
    have hwq' : w.alloc (.cells #[.int .u8 0, .int .u64 0, .slice none 0 0, .slice none 0 0, .slice none 0 0, .slice none 0 0, .slice none 0 0, .slice none 0 0, .slice none 0 0, .slice none 0 0] 38) = wq := hwq
    have Hsz := hid hsz
    have Hr := hid hr
    clear hb hbe hwq hsz
    go_enter Try.func52, Try.ntmps52
    go_upto_region 2 with fail
    (try simp only [hwq'])
    clear hwq'
    go_wp2_with fail
    refine HRf.out.mono ?_
    rintro e2 w2 ⟨rfl, hb2⟩
    have HB2 := hid (HB.out.below hb2)
    have HBe2 := hid (HBe.out.trans (hb2.mono HBe.out.size))
    clear HRf hb2
    go_wp2_with (refine wpList_store_blk rfl 38 _ _ rfl r rfl (rzC c 0) rfl HB2.out rfl I0.out (rz_one c 0) ?_; intro w9 HB9 HU9)
    exact bodyPost_ret (results_blk (cs := rzC c 0) Try.results52 rfl aggRz HB9.out) rfl ⟨rfl, HBe2.out.trans (HU9.out.below (by have := Hr.out; omega) HBe2.out.size)⟩
/-- What the steps that name an object do: the answer's code and value, the ground, the barrier. -/
def namedS (G : GS) (B : BS) (o : OpP) : (Nat × Nat) × GS × BS :=
  let r := rootS B (o.m : Int) (numX o.a)
  if r.2 ≠ 0 then ((r.2, 0), G, B)
  else if o.kind = 3 then (((pushS G B (o.m : Int) r.1).1, 0), G, (pushS G B (o.m : Int) r.1).2)
  else if o.kind = 5 then (((pushS G B (numX o.b) r.1).1, 0), G, (pushS G B (numX o.b) r.1).2)
  else if o.kind = 2 then
    (let q := readS G r.1 (numX o.b)
     if q.2 ≠ 0 ∨ q.1 = 0 then ((q.2, 0), G, B) else (giv q.1 (pushS G B (o.m : Int) q.1).1, G, (pushS G B (o.m : Int) q.1).2))
  else
    let t := if o.c ≠ 0 then rootS B (o.m : Int) (numX (o.c - 1)) else (0, 0)
    if t.2 ≠ 0 then ((t.2, 0), G, B)
    else (((writeS G B (o.m : Int) r.1 (numX o.b) t.1).1, 0), (writeS G B (o.m : Int) r.1 (numX o.b) t.1).2)
section
variable {X : Nat → Bool} {w w' w'' : World} {ρ ρ' : Rl} {L L' : GL} {T T' : BL} {G G' : GS} {B B' : BS}
theorem Fr.new {g : Nat} (h : Fr X ρ w ρ' w') (hu : Upd g w' w'') (hg : w.heap.size ≤ g) : Fr X ρ w ρ' w'' :=
  ⟨hu.os.trans h.os, hu.tape.trans h.tape, hu.output.trans h.output, Nat.le_trans h.size hu.size, h.old, fun k hk => h.nw k (Nat.le_trans hu.size hk), fun k hk h0 => (hu.block k (Nat.lt_of_lt_of_le hk h.size) (by omega)).trans (h.blk k hk h0)⟩
theorem BMx.upd0 {x g : Nat} (h : BMx x w ρ L T G B) (hu : Upd g w w') (hg : ρ g = 0) : BMx x w' ρ L T G B := h.keep (X := fun c => c == 0) (Fr.upd hu (by show (ρ g == 0) = true; rw [hg]; rfl)) (fun c hc => by have := of_decide_eq_true hc; show (c == 0) = false; simp; omega)
/-- What a step leaves. -/
def PlP (w : World) (ρ : Rl) (L : GL) (T : BL) (r : (Nat × Nat) × GS × BS) (e : Ending) (w' : World) : Prop := e = .returned (.agg (rzC r.1.1 r.1.2).toArray) ∧ ∃ L' T' ρ', L.Same L' ∧ T'.bB = T.bB ∧ BM w' ρ' L' T' r.2.1 r.2.2 ∧ Fr bX ρ w ρ' w'
theorem PlP.mk {r : (Nat × Nat) × GS × BS} {g : Nat} {w9 : World} (hL : L.Same L') (hT : T'.bB = T.bB) (hb : BM w' ρ' L' T' r.2.1 r.2.2) (hf : Fr bX ρ w ρ' w') (hu : Upd g w' w9) (hg : w.heap.size ≤ g) (h0 : ρ' g = 0) : PlP w ρ L T r (.returned (.agg (rzC r.1.1 r.1.2).toArray)) w9 := ⟨rfl, L', T', ρ', hL, hT, hb.upd0 hu h0, hf.new hu hg⟩
/-- A step under way: its blocks beside the machine. -/
structure StM (w : World) (ρ : Rl) (L : GL) (T : BL) (G : GS) (B : BS) (wB pO rB : Nat) (o : OpP) (L' : GL) (T' : BL) (ρ' : Rl) (wr : World) : Prop where
  bm : BM wr ρ' L' T' G B
  sm : L.Same L'
  tb : T'.bB = T.bB
  fr : Fr bX ρ w ρ' wr
  wb : Blk wr wB 52 [.pointer (some ⟨L.hB, 0, none⟩), .pointer (some ⟨L.sB, 0, none⟩), .pointer (some ⟨L.cB, 0, none⟩), .pointer (some ⟨T.bB, 0, none⟩)]
  ob : Blk wr pO 31 (opC o)
  rb : Blk wr rB 38 (rzC 0 0)
  w0 : ρ' wB = 0
  o0 : ρ' pO = 0
  r0 : ρ' rB = 0
  rw : w.heap.size ≤ rB
theorem StM.step {G2 : GS} {B2 : BS} {wB pO rB : Nat} {o : OpP} {L2 : GL} {T2 : BL} {ρ2 : Rl} {wr : World} (h : StM w ρ L T G B wB pO rB o L' T' ρ' wr) (hb : BM w' ρ2 L2 T2 G2 B2) (hL : L'.Same L2) (hT : T2.bB = T'.bB) (hf : Fr bX ρ' wr ρ2 w') : StM w ρ L T G2 B2 wB pO rB o L2 T2 ρ2 w' :=
  ⟨hb, h.sm.trans hL, hT.trans h.tb, h.fr.trans hf, hf.keep h.wb h.w0 rfl, hf.keep h.ob h.o0 rfl, hf.keep h.rb h.r0 rfl, by rw [hf.old _ h.wb.lt]; exact h.w0, by rw [hf.old _ h.ob.lt]; exact h.o0, by rw [hf.old _ h.rb.lt]; exact h.r0, h.rw⟩
theorem StM.below {wB pO rB : Nat} {o : OpP} {wr : World} (h : StM w ρ L T G B wB pO rB o L' T' ρ' wr) (hb : Below wr.heap.size wr w') : StM w ρ L T G B wB pO rB o L' T' ρ' w' := h.step (h.bm.below hb) (GL.Same.refl _) rfl (Fr.below hb)
theorem StM.fin {wB pO rB : Nat} {o : OpP} {wr w9 : World} {r : (Nat × Nat) × GS × BS} (h : StM w ρ L T G B wB pO rB o L' T' ρ' wr) (hr : r.2 = (G, B)) (hu : Upd rB wr w9) : PlP w ρ L T r (.returned (.agg (rzC r.1.1 r.1.2).toArray)) w9 := PlP.mk h.sm h.tb (by rw [hr]; exact h.bm) h.fr hu h.rw h.r0
set_option maxRecDepth 1000000 in
set_option maxHeartbeats 8000000 in
theorem playNamed_walk (h : BM w ρ L T G B) {wB : Nat} (hw : Blk w wB 52 [.pointer (some ⟨L.hB, 0, none⟩), .pointer (some ⟨L.sB, 0, none⟩), .pointer (some ⟨L.cB, 0, none⟩), .pointer (some ⟨T.bB, 0, none⟩)]) (hw0 : ρ wB = 0) (hok : GOk G) (o : OpP) (ho : o.kind < 256 ∧ o.m < 256 ∧ o.a < 18446744073709551616 ∧ o.b < 18446744073709551616 ∧ o.c < 18446744073709551616) (hmd : B.made ≤ 1000000000) (hlg : ∀ m, (B.logs m).length ≤ 1000000000) :
    Calls Try.prog 57 #[.pointer (some ⟨wB, 0, none⟩), .agg (opC o).toArray] w fun e w' => PlP w ρ L T (namedS G B o) e w' := by
  have HH := hid h
  have HW := hid (And.intro hw hw0)
  have HO := hid hok
  have Hb := hid (And.intro hmd hlg)
  have I0 := hid info_rz
  obtain ⟨kind, m, oa, ob, oc⟩ := o
  dsimp only at ho
  obtain ⟨hk256, hm256, ha64, hb64, hc64⟩ := ho
  obtain ⟨pO, hpO⟩ : ∃ g, w.heap.size = g := ⟨_, rfl⟩
  have i1 : (kind : Int) < 256 := by omega
  have i2 : (m : Int) < 256 := by omega
  clear h hw hw0 hok hmd hlg
  unfold opC
  dsimp only
  go_enter Try.func57, Try.ntmps57
  go_upto_region 1 with fail
  obtain ⟨wa, hwa⟩ : ∃ wa, (w.alloc (.cells (opC ⟨kind, m, oa, ob, oc⟩).toArray 31)).alloc (.cells (rzC 0 0).toArray 38) = wa := ⟨_, rfl⟩
  have hsz : (w.alloc (.cells (opC ⟨kind, m, oa, ob, oc⟩).toArray 31)).heap.size = pO + 1 := by simp [hpO]
  have hz : ∀ g, w.heap.size ≤ g → ρ g = 0 := fun g hg => by
    by_cases e : ρ g = 0
    · exact e
    · have := HH.out.gm.dom g e; omega
  have HS0 : Hid (StM w ρ L T G B wB pO (pO + 1) ⟨kind, m, oa, ob, oc⟩ L T ρ wa) := hid (by
    have hb1 : Below w.heap.size w wa := by rw [← hwa]; exact (nbel w _).trans ((nbel _ _).mono (by simp))
    refine ⟨HH.out.below hb1, GL.Same.refl _, rfl, Fr.below hb1, HW.out.1.below hb1, ?_, ?_, HW.out.2, hz _ (by omega), hz _ (by omega), by omega⟩
    · rw [← hwa]
      refine Blk.alloc ?_ _
      rw [← hpO]
      exact Blk.new w _ _
    · rw [← hwa, ← hsz]
      exact Blk.new _ _ _)
  have hwa' : (w.alloc (.cells #[.int .u8 (kind : Int), .int .u8 (m : Int), .int .u64 (oa : Int), .int .u64 (ob : Int), .int .u64 (oc : Int)] 31)).alloc (.cells #[.int .u8 0, .int .u64 0, .slice none 0 0, .slice none 0 0, .slice none 0 0, .slice none 0 0, .slice none 0 0, .slice none 0 0, .slice none 0 0, .slice none 0 0] 38) = wa := hwa
  have hsz' : (w.alloc (.cells #[.int .u8 (kind : Int), .int .u8 (m : Int), .int .u64 (oa : Int), .int .u64 (ob : Int), .int .u64 (oc : Int)] 31)).heap.size = pO + 1 := hsz
  (try simp only [hwa', hsz'])
  clear hwa hwa' hsz hsz' HH HW hz hpO
  obtain ⟨rB, hrB⟩ : ∃ r, pO + 1 = r := ⟨_, rfl⟩
  rw [hrB] at HS0
  simp only [hrB]
  clear hrB
  obtain ⟨X, W, HTT, H0, hne, HC⟩ := class_below wa
  have e1 : ∀ y, (W y).cell? ⟨wB, 3, none⟩ = some (.pointer (some ⟨T.bB, 0, none⟩)) := fun y => (HS0.out.below (HTT.out y)).wb.cell 3
  have e2 : ∀ y, (W y).cell? ⟨pO, 1, none⟩ = some (.int .u8 (m : Int)) := fun y => (HS0.out.below (HTT.out y)).ob.cell 1
  refine wp_region_class W (by kernel_rfl) (by kernel_rfl) H0.out ?_
  repeat (go_big_quiet_step (fail))
  refine wpQuiet_nil ?_
  intro z
  have HS1 := hid (HS0.out.below (HTT.out z))
  generalize W z = wz at HS1 ⊢
  clear e1 e2 H0 HTT HC hne HS0
  have c2 := HS1.out.ob.cell 2
  have c2' : wz.cell? ⟨pO, 2, none⟩ = some (.int .u64 (oa : Int)) := c2
  have HNu := hid (number_walk oa)
  have HRt := hid (root_walk HS1.out.bm (m : Int) (numX oa))
  rw [HS1.out.tb] at HRt
  obtain ⟨⟨obj, cd⟩, hr⟩ : ∃ r, rootS B (m : Int) (numX oa) = r := ⟨_, rfl⟩
  rw [hr] at HRt
  dsimp only at HRt
  have Hr := hid hr
  clear c2 hr
  have Hr0 : Hid (∀ n, numX oa = n → rootS B (m : Int) (numX oa) = rootS B (m : Int) n) := hid (fun n e => by rw [e])
  obtain ⟨na, hna⟩ : ∃ n, numX oa = n := ⟨_, rfl⟩
  have Hr0 := hid (Hr0.out na hna)
  rw [hna] at HNu HRt Hr
  clear hna
  go_wp2_with fail
  refine (HNu.out _).mono ?_
  rintro e3 w3 ⟨rfl, rfl⟩
  clear HNu
  go_wp2_with fail
  refine HRt.out.mono ?_
  rintro e4 w4 ⟨rfl, hb4⟩
  have HS4 := hid (HS1.out.below hb4)
  clear HRt hb4 HS1 c2'
  have Hk := hid (And.intro hk256 hm256)
  by_cases hcd : cd = 0
  rotate_left
  · as_aux_lemma =>
    have dc : ((cd : Int) != 0) = true := by simp; omega
    have HX : Hid (namedS G B ⟨kind, m, oa, ob, oc⟩ = ((cd, 0), G, B)) := hid (by unfold namedS; dsimp only; rw [Hr0.out, Hr.out, if_pos hcd])
    have HRf := hid (refuse_walk cd w4)
    go_wp2_with fail
    refine HRf.out.mono ?_
    rintro e5 w5 ⟨rfl, hb5⟩
    have HSt := hid (HS4.out.below hb5)
    clear HRf hb5 HS4
    go_wp2_with (refine wpList_store_blk rfl 38 _ _ rfl rB rfl (rzC cd 0) rfl HSt.out.rb rfl I0.out (rz_one cd 0) ?_; intro w9 HB9 HU9)
    refine bodyPost_ret (results_blk (cs := rzC cd 0) Try.results57 rfl aggRz HB9.out) rfl ?_
    have := HSt.out.fin (r := ((cd, 0), _, _)) rfl HU9.out
    first
    | exact this
    | (rw [HX.out]; exact this)
  subst hcd
  have HX0 : Hid (namedS G B ⟨kind, m, oa, ob, oc⟩ = if kind = 3 then (((pushS G B (m : Int) obj).1, 0), G, (pushS G B (m : Int) obj).2) else if kind = 5 then (((pushS G B (numX ob) obj).1, 0), G, (pushS G B (numX ob) obj).2) else if kind = 2 then (if (readS G obj (numX ob)).2 ≠ 0 ∨ (readS G obj (numX ob)).1 = 0 then (((readS G obj (numX ob)).2, 0), G, B) else (giv (readS G obj (numX ob)).1 (pushS G B (m : Int) (readS G obj (numX ob)).1).1, G, (pushS G B (m : Int) (readS G obj (numX ob)).1).2)) else (if (if oc ≠ 0 then rootS B (m : Int) (numX (oc - 1)) else (0, 0)).2 ≠ 0 then (((if oc ≠ 0 then rootS B (m : Int) (numX (oc - 1)) else (0, 0)).2, 0), G, B) else (((writeS G B (m : Int) obj (numX ob) (if oc ≠ 0 then rootS B (m : Int) (numX (oc - 1)) else (0, 0)).1).1, 0), (writeS G B (m : Int) obj (numX ob) (if oc ≠ 0 then rootS B (m : Int) (numX (oc - 1)) else (0, 0)).1).2))) := hid (by
    unfold namedS
    dsimp only
    rw [Hr0.out, Hr.out, if_neg (fun h => h rfl)])
  have c0 : w4.cell? ⟨pO, 0, none⟩ = some (.int .u8 (kind : Int)) := HS4.out.ob.cell 0
  clear Hr Hr0
  by_cases h3 : kind = 3
  · as_aux_lemma =>
    subst h3
    rw [if_pos rfl] at HX0
    have HP := hid (pushRoot_walk HS4.out.bm (m : Int) obj)
    rw [HS4.out.tb] at HP
    obtain ⟨⟨pc, pB⟩, hp⟩ : ∃ r, pushS G B (m : Int) obj = r := ⟨_, rfl⟩
    rw [hp] at HP HX0
    have HX := HX0
    clear hp HX0
    go_wp2_with fail
    refine HP.out.mono ?_
    rintro e5 w5 ⟨he5, hb5, hf5⟩
    dsimp only at he5 hb5
    subst he5
    have HS5 := hid (HS4.out.step hb5 (GL.Same.refl _) rfl hf5)
    clear HP hb5 hf5 HS4 c0
    have HRf := hid (refuse_walk pc w5)
    go_wp2_with fail
    refine HRf.out.mono ?_
    rintro e6 w6 ⟨rfl, hb6⟩
    have HSt := hid (HS5.out.below hb6)
    clear HRf hb6 HS5
    go_wp2_with (refine wpList_store_blk rfl 38 _ _ rfl rB rfl (rzC pc 0) rfl HSt.out.rb rfl I0.out (rz_one pc 0) ?_; intro w9 HB9 HU9)
    refine bodyPost_ret (results_blk (cs := rzC pc 0) Try.results57 rfl aggRz HB9.out) rfl ?_
    have := HSt.out.fin (r := ((pc, 0), _, _)) rfl HU9.out
    first
    | exact this
    | (rw [HX.out]; exact this)
  have d3 : ((kind : Int) == 3) = false := by simp; omega
  rw [if_neg h3] at HX0
  have c3 : w4.cell? ⟨pO, 3, none⟩ = some (.int .u64 (ob : Int)) := HS4.out.ob.cell 3
  have HNb := hid (number_walk ob)
  generalize numX ob = nb at HX0 HNb
  by_cases h5 : kind = 5
  · as_aux_lemma =>
    subst h5
    rw [if_pos rfl] at HX0
    have HP := hid (pushRoot_walk HS4.out.bm nb obj)
    rw [HS4.out.tb] at HP
    obtain ⟨⟨pc, pB⟩, hp⟩ : ∃ r, pushS G B nb obj = r := ⟨_, rfl⟩
    rw [hp] at HP HX0
    have HX := HX0
    clear hp HX0
    go_wp2_with fail
    refine (HNb.out _).mono ?_
    rintro e8 w8 ⟨rfl, rfl⟩
    clear HNb
    go_wp2_with fail
    refine HP.out.mono ?_
    rintro e5 w5 ⟨he5, hb5, hf5⟩
    dsimp only at he5 hb5
    subst he5
    have HS5 := hid (HS4.out.step hb5 (GL.Same.refl _) rfl hf5)
    clear HP hb5 hf5 HS4 c0 c3
    have HRf := hid (refuse_walk pc w5)
    go_wp2_with fail
    refine HRf.out.mono ?_
    rintro e6 w6 ⟨rfl, hb6⟩
    have HSt := hid (HS5.out.below hb6)
    clear HRf hb6 HS5
    go_wp2_with (refine wpList_store_blk rfl 38 _ _ rfl rB rfl (rzC pc 0) rfl HSt.out.rb rfl I0.out (rz_one pc 0) ?_; intro w9 HB9 HU9)
    refine bodyPost_ret (results_blk (cs := rzC pc 0) Try.results57 rfl aggRz HB9.out) rfl ?_
    have := HSt.out.fin (r := ((pc, 0), _, _)) rfl HU9.out
    first
    | exact this
    | (rw [HX.out]; exact this)
  have d5 : ((kind : Int) == 5) = false := by simp; omega
  rw [if_neg h5] at HX0
  by_cases h2 : kind = 2
  · subst h2
    rw [if_pos rfl] at HX0
    have HRd := hid (read_walk HS4.out.bm HO.out obj nb)
    rw [HS4.out.tb] at HRd
    obtain ⟨⟨ref, rc⟩, hp⟩ : ∃ r, readS G obj nb = r := ⟨_, rfl⟩
    rw [hp] at HRd HX0
    dsimp only at HRd HX0
    clear hp
    by_cases hrc : rc ≠ 0 ∨ ref = 0
    · as_aux_lemma =>
      rw [if_pos hrc] at HX0
      have HX := HX0
      clear HX0
      go_wp2_with fail
      refine (HNb.out _).mono ?_
      rintro e8 w8 ⟨rfl, rfl⟩
      clear HNb
      go_wp2_with fail
      refine HRd.out.mono ?_
      rintro e5 w5 ⟨rfl, hb5⟩
      have HS5 := hid (HS4.out.below hb5)
      have HRf := hid (refuse_walk rc w5)
      clear HRd hb5 HS4 c0 c3
      by_cases hrc0 : rc = 0
      · have hr0 : ref = 0 := by rcases hrc with e | e; exact absurd hrc0 e; exact e
        subst hrc0 hr0
        go_wp2_with fail
        refine HRf.out.mono ?_
        rintro e6 w6 ⟨rfl, hb6⟩
        have HSt := hid (HS5.out.below hb6)
        clear HRf hb6 HS5
        go_wp2_with (refine wpList_store_blk rfl 38 _ _ rfl rB rfl (rzC 0 0) rfl HSt.out.rb rfl I0.out (rz_one 0 0) ?_; intro w9 HB9 HU9)
        refine bodyPost_ret (results_blk (cs := rzC 0 0) Try.results57 rfl aggRz HB9.out) rfl ?_
        have := HSt.out.fin (r := ((0, 0), _, _)) rfl HU9.out
        first
        | exact this
        | (rw [HX.out]; exact this)
      · have drc : ((rc : Int) != 0) = true := by simp; omega
        go_wp2_with fail
        refine HRf.out.mono ?_
        rintro e6 w6 ⟨rfl, hb6⟩
        have HSt := hid (HS5.out.below hb6)
        clear HRf hb6 HS5
        go_wp2_with (refine wpList_store_blk rfl 38 _ _ rfl rB rfl (rzC rc 0) rfl HSt.out.rb rfl I0.out (rz_one rc 0) ?_; intro w9 HB9 HU9)
        refine bodyPost_ret (results_blk (cs := rzC rc 0) Try.results57 rfl aggRz HB9.out) rfl ?_
        have := HSt.out.fin (r := ((rc, 0), _, _)) rfl HU9.out
        first
        | exact this
        | (rw [HX.out]; exact this)
    · as_aux_lemma =>
      rw [if_neg hrc] at HX0
      have hrc0 : rc = 0 := Classical.byContradiction (fun e => hrc (.inl e))
      have hr0 : ref ≠ 0 := fun e => hrc (.inr e)
      subst hrc0
      have dr : ((ref : Int) == 0) = false := by simp; omega
      clear hrc
      go_wp2_with fail
      refine (HNb.out _).mono ?_
      rintro e8 w8 ⟨rfl, rfl⟩
      clear HNb
      go_wp2_with fail
      refine HRd.out.mono ?_
      rintro e5 w5 ⟨rfl, hb5⟩
      have HS5 := hid (HS4.out.below hb5)
      clear HRd hb5 HS4 c0 c3
      have HP := hid (pushRoot_walk HS5.out.bm (m : Int) ref)
      rw [HS5.out.tb] at HP
      obtain ⟨⟨pc, pB⟩, hp⟩ : ∃ r, pushS G B (m : Int) ref = r := ⟨_, rfl⟩
      rw [hp] at HP HX0
      dsimp only at HX0
      clear hp
      go_wp2_with fail
      refine HP.out.mono ?_
      rintro e6 w6 ⟨he6, hb6, hf6⟩
      dsimp only at he6 hb6
      subst he6
      have HS6 := hid (HS5.out.step hb6 (GL.Same.refl _) rfl hf6)
      clear HP hb6 hf6 HS5
      have HGv := hid (give_walk ref pc w6)
      obtain ⟨⟨gc, gv⟩, hgv⟩ : ∃ r, giv ref pc = r := ⟨_, rfl⟩
      rw [hgv] at HGv HX0
      dsimp only at HGv
      have HX := HX0
      clear hgv HX0
      go_wp2_with fail
      refine HGv.out.mono ?_
      rintro e7 w7 ⟨rfl, hb7⟩
      have HSt := hid (HS6.out.below hb7)
      clear HGv hb7 HS6
      go_wp2_with (refine wpList_store_blk rfl 38 _ _ rfl rB rfl (rzC gc gv) rfl HSt.out.rb rfl I0.out (rz_one gc gv) ?_; intro w9 HB9 HU9)
      refine bodyPost_ret (results_blk (cs := rzC gc gv) Try.results57 rfl aggRz HB9.out) rfl ?_
      have := HSt.out.fin (r := ((gc, gv), _, _)) rfl HU9.out
      first
      | exact this
      | (rw [HX.out]; exact this)
  have d2 : ((kind : Int) == 2) = false := by simp; omega
  rw [if_neg h2] at HX0
  have c4 : w4.cell? ⟨pO, 4, none⟩ = some (.int .u64 (oc : Int)) := HS4.out.ob.cell 4
  by_cases hoc : oc = 0
  · as_aux_lemma =>
    subst hoc
    have e0 : (if (0 : Nat) ≠ 0 then rootS B (m : Int) (numX (0 - 1)) else (0, 0)) = (0, 0) := if_neg (by decide)
    rw [e0, if_neg (fun h => h rfl)] at HX0
    clear e0
    have c4' : w4.cell? ⟨pO, 4, none⟩ = some (.int .u64 0) := c4
    clear c4
    have HWr := hid (write_walk HS4.out.bm HO.out (m : Int) obj nb 0 Hb.out.1 Hb.out.2)
    rw [HS4.out.tb] at HWr
    dsimp only at HX0
    obtain ⟨⟨wc, G2, B2⟩, hwr⟩ : ∃ r, writeS G B (m : Int) obj nb 0 = r := ⟨_, rfl⟩
    rw [hwr] at HWr HX0
    have HX := HX0
    clear hwr HX0
    go_wp2_with fail
    refine (HNb.out _).mono ?_
    rintro e8 w8 ⟨rfl, rfl⟩
    clear HNb
    go_wp2_with fail
    refine HWr.out.mono ?_
    rintro e5 w5 ⟨he5, T5, ρ5, ht5, hb5, hf5⟩
    dsimp only at he5 hb5
    subst he5
    have HS5 := hid (HS4.out.step hb5 (GL.Same.refl _) ht5 hf5)
    clear HWr ht5 hb5 hf5 HS4 c0 c3 c4'
    have HRf := hid (refuse_walk wc w5)
    go_wp2_with fail
    refine HRf.out.mono ?_
    rintro e6 w6 ⟨rfl, hb6⟩
    have HSt := hid (HS5.out.below hb6)
    clear HRf hb6 HS5
    go_wp2_with (refine wpList_store_blk rfl 38 _ _ rfl rB rfl (rzC wc 0) rfl HSt.out.rb rfl I0.out (rz_one wc 0) ?_; intro w9 HB9 HU9)
    refine bodyPost_ret (results_blk (cs := rzC wc 0) Try.results57 rfl aggRz HB9.out) rfl ?_
    have := HSt.out.fin (r := ((wc, 0), _, _)) rfl HU9.out
    first
    | exact this
    | (rw [HX.out]; exact this)
  have doc : ((oc : Int) != 0) = true := by simp; omega
  rw [if_pos hoc] at HX0
  obtain ⟨oc1, hoc1⟩ : ∃ x, oc - 1 = x := ⟨_, rfl⟩
  rw [hoc1] at HX0
  have hocs : (oc : Int) - 1 = (oc1 : Int) := by omega
  have hoc64 : (oc1 : Int) < 18446744073709551616 := by omega
  have HNc := hid (number_walk oc1)
  have HRt := hid (root_walk HS4.out.bm (m : Int) (numX oc1))
  rw [HS4.out.tb] at HRt
  generalize numX oc1 = nc at HX0 HNc HRt
  obtain ⟨⟨ref, rc⟩, hr⟩ : ∃ r, rootS B (m : Int) nc = r := ⟨_, rfl⟩
  rw [hr] at HRt HX0
  dsimp only at HRt HX0
  clear hr hoc1
  by_cases hrc : rc = 0
  rotate_left
  · as_aux_lemma =>
    rw [if_pos hrc] at HX0
    have HX := HX0
    have drc : ((rc : Int) != 0) = true := by simp; omega
    clear HX0
    go_wp2_with fail
    refine (HNc.out _).mono ?_
    rintro e8 w8 ⟨rfl, rfl⟩
    clear HNc
    go_wp2_with fail
    refine HRt.out.mono ?_
    rintro e5 w5 ⟨rfl, hb5⟩
    have HS5 := hid (HS4.out.below hb5)
    clear HRt hb5 HS4 c0 c3 c4
    have HRf := hid (refuse_walk rc w5)
    go_wp2_with fail
    refine HRf.out.mono ?_
    rintro e6 w6 ⟨rfl, hb6⟩
    have HSt := hid (HS5.out.below hb6)
    clear HRf hb6 HS5
    go_wp2_with (refine wpList_store_blk rfl 38 _ _ rfl rB rfl (rzC rc 0) rfl HSt.out.rb rfl I0.out (rz_one rc 0) ?_; intro w9 HB9 HU9)
    refine bodyPost_ret (results_blk (cs := rzC rc 0) Try.results57 rfl aggRz HB9.out) rfl ?_
    have := HSt.out.fin (r := ((rc, 0), _, _)) rfl HU9.out
    first
    | exact this
    | (rw [HX.out]; exact this)
  as_aux_lemma =>
  subst hrc
  rw [if_neg (by decide)] at HX0
  go_wp2_with fail
  refine (HNc.out _).mono ?_
  rintro e8 w8 ⟨rfl, rfl⟩
  clear HNc
  go_wp2_with fail
  refine HRt.out.mono ?_
  rintro e5 w5 ⟨rfl, hb5⟩
  have HS5 := hid (HS4.out.below hb5)
  clear HRt hb5 HS4 c0 c3 c4
  have c3 : w5.cell? ⟨pO, 3, none⟩ = some (.int .u64 (ob : Int)) := HS5.out.ob.cell 3
  have HWr := hid (write_walk HS5.out.bm HO.out (m : Int) obj nb ref Hb.out.1 Hb.out.2)
  rw [HS5.out.tb] at HWr
  obtain ⟨⟨wc, G2, B2⟩, hwr⟩ : ∃ r, writeS G B (m : Int) obj nb ref = r := ⟨_, rfl⟩
  rw [hwr] at HWr HX0
  have HX := HX0
  clear hwr HX0
  go_wp2_with fail
  refine (HNb.out _).mono ?_
  rintro e8 w8 ⟨rfl, rfl⟩
  clear HNb
  go_wp2_with fail
  refine HWr.out.mono ?_
  rintro e6 w6 ⟨he6, T6, ρ6, ht6, hb6, hf6⟩
  dsimp only at he6 hb6
  subst he6
  have HS6 := hid (HS5.out.step hb6 (GL.Same.refl _) ht6 hf6)
  clear HWr ht6 hb6 hf6 HS5 c3
  have HRf := hid (refuse_walk wc w6)
  go_wp2_with fail
  refine HRf.out.mono ?_
  rintro e7 w7 ⟨rfl, hb7⟩
  have HSt := hid (HS6.out.below hb7)
  clear HRf hb7 HS6
  go_wp2_with (refine wpList_store_blk rfl 38 _ _ rfl rB rfl (rzC wc 0) rfl HSt.out.rb rfl I0.out (rz_one wc 0) ?_; intro w9 HB9 HU9)
  refine bodyPost_ret (results_blk (cs := rzC wc 0) Try.results57 rfl aggRz HB9.out) rfl ?_
  have := HSt.out.fin (r := ((wc, 0), _, _)) rfl HU9.out
  first
  | exact this
  | (rw [HX.out]; exact this)
end
end Go.Proofs.Qxb6500888a
