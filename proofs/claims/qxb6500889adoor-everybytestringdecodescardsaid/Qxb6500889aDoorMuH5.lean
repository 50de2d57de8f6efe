/- The heap: Alloc. -/
import Derived.Test.Qxb6500889aDoorMuH4
import Derived.Deep.OwnRows
namespace Go.Proofs.Qxb6500889aDoor
open Go.RowKit
set_option linter.unusedSimpArgs false
set_option linter.unusedVariables false

open Classical in
/-- The heap with the condemned of D freed. -/
noncomputable def freed (H : HS) (D : Nat → Bool) : HS := { H with objs := fun a => if D a = true then none else H.objs a, cond := fun a => H.cond a && !D a, taken := fun i => if ∃ a x, D a = true ∧ H.objs a = some x ∧ offA a ≤ i ∧ i < offA a + obW x then false else H.taken i }
theorem freed_none (H : HS) : freed H (fun _ => false) = H := by
  unfold freed
  obtain ⟨o, c, t, r, n⟩ := H
  simp
theorem freed_step (H : HS) (D : Nat → Bool) {a : Nat} {x : Ob} (hx : H.objs a = some x) (hD : D a = false) : freeH (freed H D) a x = freed H (fup D a true) := by
  unfold freeH freed
  simp only [HS.mk.injEq, and_true]
  refine ⟨?_, ?_, ?_⟩
  · funext b
    unfold fup
    by_cases hb : b = a
    · simp [hb]
    · simp [hb]
  · funext b
    unfold fup
    by_cases hb : b = a
    · simp [hb]
    · simp [hb]
  · funext i
    unfold fillT
    dsimp only
    by_cases h1 : offA a ≤ i ∧ i < offA a + obW x
    · rw [if_pos h1, if_pos ⟨a, x, by simp [fup], hx, h1⟩]
    · rw [if_neg h1]
      by_cases h2 : ∃ b y, D b = true ∧ H.objs b = some y ∧ offA b ≤ i ∧ i < offA b + obW y
      · obtain ⟨b, y, g1, g2, g3⟩ := h2
        rw [if_pos ⟨b, y, g1, g2, g3⟩, if_pos ⟨b, y, by unfold fup; split <;> simp_all, g2, g3⟩]
      · rw [if_neg h2, if_neg]
        rintro ⟨b, y, g1, g2, g3⟩
        by_cases hb : b = a
        · subst hb
          rw [hx] at g2
          cases g2
          exact h1 g3
        · exact h2 ⟨b, y, by unfold fup at g1; rw [if_neg hb] at g1; exact g1, g2, g3⟩
theorem nextRun_le {tk : Bool} {i r : Nat} (h : r ≤ i) : nextRun tk i r ≤ i + 1 := by
  unfold nextRun
  split
  · omega
  · split <;> omega
theorem scanP_fit (tk : Nat → Bool) (words : Nat) : ∀ (f i r s : Nat), r ≤ i → scanP tk words f i r = some s → s + words ≤ i + f
  | 0, i, r, s, _, h => by cases h
  | f + 1, i, r, s, hr, h => by
    unfold scanP at h
    have h1 := nextRun_le (tk := tk i) hr
    split at h
    · rename_i h2
      injection h with h
      omega
    · have := scanP_fit tk words f (i + 1) _ s h1 h
      omega
theorem placeP_fit {tk : Nat → Bool} {words s : Nat} (h : placeP tk words = some s) : s + words ≤ 32768 := by
  have := scanP_fit tk words 32768 0 0 s (Nat.le_refl _) h
  omega
/-- The heap's places are sound. -/
structure Wf (H : HS) : Prop where
  rng : ∀ a x, H.objs a = some x → ∃ s, a = 65536 + s ∧ s + obW x ≤ 32768
  cd : ∀ a, H.cond a = true → ∃ x, H.objs a = some x
  tk : ∀ a x, H.objs a = some x → ∀ i, offA a ≤ i → i < offA a + obW x → H.taken i = true
  dj : ∀ a b x y, H.objs a = some x → H.objs b = some y → a ≠ b → offA a + obW x ≤ offA b ∨ offA b + obW y ≤ offA a
theorem obW_pos (x : Ob) : 1 ≤ obW x := by unfold obW; omega
theorem scanP_free (tk : Nat → Bool) (words : Nat) : ∀ (f i r s : Nat), r ≤ i → (∀ j, i - r ≤ j → j < i → tk j = false) → scanP tk words f i r = some s → ∀ j, s ≤ j → j < s + words → tk j = false
  | 0, i, r, s, _, _, h => by cases h
  | f + 1, i, r, s, hr, hf, h => by
    unfold scanP at h
    have h1 := nextRun_le (tk := tk i) hr
    have h2 : ∀ j, i + 1 - nextRun (tk i) i r ≤ j → j < i + 1 → tk j = false := by
      intro j hj1 hj2
      unfold nextRun at hj1
      split at hj1
      · omega
      · rename_i hti
        have hti' : tk i = false := by cases ht : tk i with | false => rfl | true => exact absurd ht hti
        by_cases hji : j = i
        · rw [hji]; exact hti'
        · split at hj1
          · exact hf j (by omega) (by omega)
          · exact hf j (by omega) (by omega)
    split at h
    · rename_i h3
      injection h with h
      intro j hj1 hj2
      exact h2 j (by omega) (by omega)
    · exact scanP_free tk words f (i + 1) _ s h1 h2 h
theorem placeP_free {tk : Nat → Bool} {words s : Nat} (h : placeP tk words = some s) : ∀ j, s ≤ j → j < s + words → tk j = false :=
  scanP_free tk words 32768 0 0 s (Nat.le_refl _) (fun j h1 h2 => by omega) h
theorem Wf.freed {H : HS} (h : Wf H) {D : Nat → Bool} (hD : ∀ a, D a = true → H.cond a = true) : Wf (Go.Proofs.Qxb6500889aDoor.freed H D) := by
  have ho : ∀ a x, (Go.Proofs.Qxb6500889aDoor.freed H D).objs a = some x → D a = false ∧ H.objs a = some x := fun a x hx => by
    have hx' : (if D a = true then none else H.objs a) = some x := hx
    by_cases hd : D a = true
    · rw [if_pos hd] at hx'; cases hx'
    · rw [if_neg hd] at hx'
      exact ⟨by simpa using hd, hx'⟩
  refine ⟨fun a x hx => h.rng a x (ho a x hx).2, fun a ha => ?_, fun a x hx i h1 h2 => ?_, fun a b x y hx hy => h.dj a b x y (ho a x hx).2 (ho b y hy).2⟩
  · have ha' : (H.cond a && !D a) = true := ha
    simp at ha'
    obtain ⟨x, hx⟩ := h.cd a ha'.1
    exact ⟨x, by show (if D a = true then none else H.objs a) = some x; rw [if_neg (by rw [ha'.2]; simp)]; exact hx⟩
  · obtain ⟨g1, g2⟩ := ho a x hx
    have hn : ¬ ∃ b y, D b = true ∧ H.objs b = some y ∧ offA b ≤ i ∧ i < offA b + obW y := by
      rintro ⟨b, y, k1, k2, k3, k4⟩
      have hab : a ≠ b := fun e => by rw [e, k1] at g1; cases g1
      rcases h.dj a b x y g2 k2 hab with h' | h' <;> omega
    have : (Go.Proofs.Qxb6500889aDoor.freed H D).taken i = H.taken i := by
      unfold Go.Proofs.Qxb6500889aDoor.freed
      dsimp only
      rw [if_neg hn]
    rw [this]
    exact h.tk a x g2 i h1 h2
theorem Wf.gap {H : HS} (h : Wf H) {words s : Nat} (hw : 1 ≤ words) (hp : placeP H.taken words = some s) : H.objs (65536 + s) = none := by
  cases hx : H.objs (65536 + s) with
  | none => rfl
  | some x =>
    exfalso
    have h1 := h.tk _ x hx s (by rw [offA_add]; exact Nat.le_refl _) (by rw [offA_add]; have := obW_pos x; omega)
    rw [placeP_free hp s (Nat.le_refl _) (by omega)] at h1
    cases h1
/-- The heap in which Alloc looks for room at last. -/
noncomputable def baseH (H : HS) (words : Nat) : HS := if (placeP H.taken words).isSome = true then H else freed H H.cond
theorem Wf.base {H : HS} (h : Wf H) (words : Nat) : Wf (baseH H words) := by
  unfold baseH
  split
  · exact h
  · exact h.freed (fun _ ha => ha)
def newOb (size refs : Nat) : Ob := ⟨List.replicate refs 0, List.replicate (size - refs) 0⟩
def mkH (H : HS) (m size refs s : Nat) : HS := { H with objs := fup H.objs (65536 + s) (some (newOb size refs)), taken := fillT H.taken s (1 + size) true, run := fup H.run m true }
theorem made_aC (n : Nat) : madeCells #[Value.int .u64 0] n = (aC (List.replicate n 0)).toArray := by
  apply Array.ext'
  apply List.ext_getElem
  · have := size_madeCells #[Value.int .u64 0] n
    simp [aC]
    simpa using this
  · intro i h1 h2
    simp [madeCells, aC, Nat.mod_one]
theorem make_addr (n : Nat) (hn : n ≤ 100000) (w : World) : (Instr.makeSlice 80 (.int .i64 (n : Int)) (.int .i64 (n : Int))).run Tryd.prog w = .ok (.slice (some ⟨w.heap.size, 0, none⟩) n n) (w.alloc (.cells (aC (List.replicate n 0)).toArray 50)) := by
  rw [← made_aC]
  exact run_make_row' (P := Tryd.prog) 80 50 (.int .u64 0) 8 Tryd.underlying80 (by kernel_rfl) rfl .i64 .i64 n (by omega) (by omega) w
theorem make_data (n : Nat) (hn : n ≤ 100000) (w : World) : (Instr.makeSlice 88 (.int .i64 (n : Int)) (.int .i64 (n : Int))).run Tryd.prog w = .ok (.slice (some ⟨w.heap.size, 0, none⟩) n n) (w.alloc (.cells (aC (List.replicate n 0)).toArray 29)) := by
  rw [← made_aC]
  exact run_make_row' (P := Tryd.prog) 88 29 (.int .u64 0) 8 Tryd.underlying88 (by kernel_rfl) rfl .i64 .i64 n (by omega) (by omega) w
section
variable {w w' : World} {ρ ρ' : Rl} {L : HL} {H : HS}
/-- While the condemned are freed. -/
structure FrS (w : World) (ρ : Rl) (L : HL) (H : HS) (r : Nat) (D : Nat → Bool) (F : List Ent) (T : List Nat) (wr : World) : Prop where
  hm : HM wr ρ L (freed H D)
  fr : Fr ρ w ρ wr
  pn : PN wr L.mC F
  it : IT wr r L.mC F T
  ft : ∀ e ∈ F, e.k ∈ T
  tc : ∀ k ∈ T, H.cond k = true ∧ D k = false
  r0 : ρ r = 0
  rw : w.heap.size ≤ r
  dc : ∀ k, H.cond k = true → D k = false → k ∈ T
  dd : ∀ k, D k = true → H.cond k = true
def mapN (w : World) (m : Nat) : Nat := match w.heap[m]? with
  | some (.map es _) => es.size
  | _ => 0
theorem PN.mapN {m : Nat} {E : List Ent} (h : PN w m E) : Go.Proofs.Qxb6500889aDoor.mapN w m = E.length := by
  obtain ⟨ck, h1, _⟩ := h
  unfold Go.Proofs.Qxb6500889aDoor.mapN
  rw [h1]
  simp
/-- A new object is laid. -/
theorem HM.newObj (h : HM w ρ L H) {s size refs ro rr rd : Nat} {E : List Ent} (hfree : H.objs (65536 + s) = none) (hsz : size ≤ 8192) (hr : refs ≤ size) {wm : World} {ρm : Rl} (hs : w.heap.size ≤ wm.heap.size) (hold : ∀ g, g < w.heap.size → wm.heap[g]? = w.heap[g]? ∧ ρm g = ρ g) (hdm : ∀ g, ρm g ≠ 0 → g < wm.heap.size)
    (ho : Blk wm ro 90 [.slice (some ⟨rr, 0, none⟩) refs refs, .slice (some ⟨rd, 0, none⟩) (size - refs) (size - refs)]) (hrb : Blk wm rr 50 (aC (List.replicate refs 0))) (hdb : Blk wm rd 29 (aC (List.replicate (size - refs) 0)))
    (e1 : ρm ro = 64 + 3 * (65536 + s)) (e2 : ρm rr = 65 + 3 * (65536 + s)) (e3 : ρm rd = 66 + 3 * (65536 + s)) {w' : World} (hmo : PN w L.mO E) (hu : Upd L.mO wm w') {b : Nat} (hp : PN w' L.mO (E ++ [⟨65536 + s, .pointer (some ⟨ro, 0, none⟩), b⟩])) :
    HM w' ρm { L with ob := fup L.ob (65536 + s) ro, rb := fup L.rb (65536 + s) rr, db := fup L.db (65536 + s) rd } { H with objs := fup H.objs (65536 + s) (some (newOb size refs)) } := by
  have hm1 : HM wm ρm L H := h.keep hs (fun g hg _ => hold g hg) hdm
  obtain ⟨E', p1, p2, p3⟩ := h.mo
  obtain ⟨ck, hk1⟩ := hmo.k
  obtain ⟨ck', hk2⟩ := p1.k
  obtain ⟨rfl, _⟩ := hk1.uniq hk2
  generalize ha : 65536 + s = a at *
  have hne : ∀ e ∈ E, e.k ≠ a := fun e he hek => by
    have := (p3 a).1 ⟨e, he, hek⟩
    rw [hfree] at this
    cases this
  have hon : ObM wm ρm { L with ob := fup L.ob a ro, rb := fup L.rb a rr, db := fup L.db a rd } a (newOb size refs) := by
    refine ⟨?_, ?_, ?_, ?_, ?_, ?_, ?_⟩
    · show Blk wm (fup L.ob a ro a) _ [.slice (some ⟨fup L.rb a rr a, 0, none⟩) (newOb size refs).refs.length (newOb size refs).refs.length, .slice (some ⟨fup L.db a rd a, 0, none⟩) (newOb size refs).data.length (newOb size refs).data.length]
      rw [fup_self, fup_self, fup_self]
      simp only [newOb, List.length_replicate]
      exact ho
    · show Blk wm (fup L.rb a rr a) _ _
      rw [fup_self]
      exact hrb
    · show Blk wm (fup L.db a rd a) _ _
      rw [fup_self]
      exact hdb
    · show ρm (fup L.ob a ro a) = _
      rw [fup_self]; exact e1
    · show ρm (fup L.rb a rr a) = _
      rw [fup_self]; exact e2
    · show ρm (fup L.db a rd a) = _
      rw [fup_self]; exact e3
    · simp only [newOb, List.length_replicate]
      omega
  have hm2 : HM wm ρm { L with ob := fup L.ob a ro, rb := fup L.rb a rr, db := fup L.db a rd } H := by
    refine ⟨hm1.hb, hm1.tk, ?_, hm1.mc, fun c y hy => ?_, hm1.rt, hm1.r1, hm1.r2, hm1.r3, hm1.r4, hm1.dom⟩
    · obtain ⟨E2, g1, g2, g3⟩ := hm1.mo
      refine ⟨E2, g1, fun e he => ?_, g3⟩
      have hek : e.k ≠ a := fun hek => by
        have := (g3 a).1 ⟨e, he, hek⟩
        rw [hfree] at this
        cases this
      show _ = Value.pointer (some ⟨fup L.ob a ro e.k, 0, none⟩)
      rw [fup_ne _ _ hek]
      exact g2 e he
    · have hca : c ≠ a := fun e => by rw [e, hfree] at hy; cases hy
      have := hm1.o c y hy
      refine ⟨?_, ?_, ?_, ?_, ?_, ?_, this.sz⟩
      · show Blk wm (fup L.ob a ro c) _ [.slice (some ⟨fup L.rb a rr c, 0, none⟩) _ _, .slice (some ⟨fup L.db a rd c, 0, none⟩) _ _]
        rw [fup_ne _ _ hca, fup_ne _ _ hca, fup_ne _ _ hca]
        exact this.o
      · show Blk wm (fup L.rb a rr c) _ _
        rw [fup_ne _ _ hca]; exact this.r
      · show Blk wm (fup L.db a rd c) _ _
        rw [fup_ne _ _ hca]; exact this.d
      · show ρm (fup L.ob a ro c) = _
        rw [fup_ne _ _ hca]; exact this.ro
      · show ρm (fup L.rb a rr c) = _
        rw [fup_ne _ _ hca]; exact this.rr
      · show ρm (fup L.db a rd c) = _
        rw [fup_ne _ _ hca]; exact this.rd
  refine hm2.setO (H' := { H with objs := fup H.objs a (some (newOb size refs)) }) hu hp (fun e he => ?_) (fun c => ?_) (fun c y hy => ?_) ⟨rfl, rfl, rfl, rfl⟩
  · show _ = Value.pointer (some ⟨fup L.ob a ro e.k, 0, none⟩)
    rcases List.mem_append.1 he with h' | h'
    · rw [fup_ne _ _ (hne e h')]
      exact p2 e h'
    · simp at h'
      subst h'
      rw [fup_self]
  · show _ ↔ (fup H.objs a (some (newOb size refs)) c).isSome = true
    by_cases hc : c = a
    · subst hc
      rw [fup_self]
      exact ⟨fun _ => rfl, fun _ => ⟨⟨c, .pointer (some ⟨ro, 0, none⟩), b⟩, List.mem_append.2 (.inr (by simp)), rfl⟩⟩
    · rw [fup_ne _ _ hc, ← p3 c]
      constructor
      · rintro ⟨e, he, hek⟩
        rcases List.mem_append.1 he with h' | h'
        · exact ⟨e, h', hek⟩
        · simp at h'
          subst h'
          exact absurd hek.symm hc
      · rintro ⟨e, he, hek⟩
        exact ⟨e, List.mem_append.2 (.inl he), hek⟩
  · have hy' : fup H.objs a (some (newOb size refs)) c = some y := hy
    by_cases hc : c = a
    · subst hc
      rw [fup_self] at hy'
      cases hy'
      exact hon
    · rw [fup_ne _ _ hc] at hy'
      exact hm2.o c y hy'
/-- What Alloc answers. -/
def AllocP (w : World) (ρ : Rl) (L : HL) (H : HS) (m size refs : Nat) (e : Ending) (w' : World) : Prop :=
  match placeP (baseH H (1 + size)).taken (1 + size) with
  | none => e = .returned (.tuple #[.int .u64 0, .bool false]) ∧ HM w' ρ L (baseH H (1 + size)) ∧ Fr ρ w ρ w'
  | some s => e = .returned (.tuple #[.int .u64 ((65536 + s : Nat) : Int), .bool true]) ∧ ∃ L' ρ', HM w' ρ' L' (mkH (baseH H (1 + size)) m size refs s) ∧ L'.hB = L.hB ∧ Fr ρ w ρ' w'
set_option maxRecDepth 1000000 in
set_option maxHeartbeats 4000000 in
/-- The loop that frees all the condemned, with what stands round it. -/
theorem alloc_walk (h : HM w ρ L H) (hwf : Wf H) {m size refs : Nat} (hm : m < 4) (hs1 : 1 ≤ size) (hs2 : size ≤ 8192) (hr : refs ≤ size) :
    Calls Tryd.prog 66 #[.pointer (some ⟨L.hB, 0, none⟩), .int .i64 (m : Int), .int .i64 (size : Int), .int .i64 (refs : Int)] w fun e w' => AllocP w ρ L H m size refs e w' := by
  have HH := hid h
  have HW := hid hwf
  have HPl := hid (place_walk h (1 + size) (by omega) (by omega))
  obtain ⟨hB, hhB⟩ : ∃ b, L.hB = b := ⟨_, rfl⟩
  obtain ⟨mC, hmC⟩ : ∃ b, L.mC = b := ⟨_, rfl⟩
  have HhB := hid hhB
  have HmC := hid hmC
  rw [hhB] at HPl
  rw [hhB]
  unfold plcV at HPl
  obtain ⟨wd, hwd⟩ : ∃ wd, 1 + size = wd := ⟨_, rfl⟩
  have Hwd := hid hwd
  have ew : (1 : Int) + (size : Int) = (wd : Int) := by omega
  rw [hwd] at HPl
  obtain ⟨p0, hp0⟩ : ∃ p0, placeP H.taken wd = p0 := ⟨_, rfl⟩
  rw [hp0] at HPl
  have Hp0 := hid hp0
  obtain ⟨pv, hpv⟩ : ∃ pv, ((p0.getD 0 : Nat) : Int) = pv := ⟨_, rfl⟩
  obtain ⟨pb, hpb⟩ : ∃ pb, p0.isSome = pb := ⟨_, rfl⟩
  rw [hpv, hpb] at HPl
  have Hpv := hid (And.intro hpv hpb)
  clear h hwf hhB hmC hwd hp0 hpv hpb
  go_enter Tryd.func66, Tryd.ntmps66
  go_wp2_with fail
  refine (HPl.out).mono ?_
  rintro e w1 ⟨rfl, rfl⟩
  clear HPl
  go_upto_if 23 with fail
  go_cut [9, 11] from 24 to 43 (fun v9 v11 wc => ∃ s, v9 = .bool true ∧ v11 = .int .i64 ((s : Nat) : Int) ∧ placeP (baseH H wd).taken wd = some s ∧ Hid (HM wc ρ L (baseH H wd)) ∧ Hid (Fr ρ w1 ρ wc))
  case first =>
    as_aux_lemma =>
    cases pb with
    | true =>
      obtain ⟨s, rfl⟩ : ∃ s, p0 = some s := Option.isSome_iff_exists.1 Hpv.out.2
      obtain rfl : ((s : Nat) : Int) = pv := Hpv.out.1
      have hb : baseH H wd = H := by unfold baseH; rw [Hp0.out]; rfl
      go_wp2_with fail
      go_meet
      case rel => exact ⟨s, rfl, rfl, by rw [hb]; exact Hp0.out, by rw [hb]; exact HH, hid (Fr.refl _ _)⟩
    | false =>
      obtain rfl : p0 = none := by cases p0 with | none => rfl | some y => exact absurd Hpv.out.2 (by simp)
      have hb : baseH H wd = freed H H.cond := by unfold baseH; rw [Hp0.out]; rfl
      simp only [Bool.not_false]
      have c10 : w1.cell? ⟨hB, 10, none⟩ = some (.map (some mC)) := by rw [← HhB.out, ← HmC.out]; exact HH.out.cells.2.2
      obtain ⟨F0, q1, q2, q3⟩ := HH.out.mc
      rw [HmC.out] at q1
      have HQ1 := hid q1
      obtain ⟨r, hr0⟩ : ∃ r, w1.heap.size = r := ⟨_, rfl⟩
      have Hr0 : Hid (ρ r = 0) := hid (by
        apply Classical.byContradiction
        intro hne
        have := HH.out.dom r hne
        omega)
      have HQ3 := hid q3
      clear q1 q2 q3
      go_wp2_with (at_range; refine wpList_range_pn rfl (.tmp 27) 83 rfl Tryd.underlying83 mC F0 rfl HQ1.out ?_; intro w2 hit2 hbe2 hsz2)
      go_frame
      have HS0 : Hid (FrS w1 ρ L H r (fun _ => false) F0 (F0.map (·.k)) w2) := hid ⟨by rw [freed_none]; exact HH.out.below hbe2, Fr.below hbe2, by rw [HmC.out]; exact HQ1.out.below hbe2, by rw [HmC.out, ← hr0]; exact hit2, fun e he => List.mem_map.2 ⟨e, he, rfl⟩, fun k hk => by
        obtain ⟨e, he, rfl⟩ := List.mem_map.1 hk
        exact ⟨(HQ3.out e.k).1 ⟨e, he, rfl⟩, rfl⟩, Hr0.out, by omega, fun k hk _ => by
        obtain ⟨e, he, rfl⟩ := (HQ3.out k).2 hk
        exact List.mem_map.2 ⟨e, he, rfl⟩, fun k hk => by cases hk⟩
      clear hit2 hbe2 hsz2 c10 HQ1 HQ3
      simp only [hr0]
      clear hr0 Hr0
      go_loopw [12] (fun v wr => ∃ D F T, Hid (FrS w1 ρ L H r D F T wr)) (fun _ wr => mapN wr mC)
      case atStart => exact ⟨_, _, _, HS0⟩
      case round =>
        clear HS0
        obtain ⟨D, F, T, HS⟩ := hrel
        have Hpn : Hid (PN wr mC F) := hid (by rw [← HmC.out]; exact HS.out.pn)
        have Hit : Hid (IT wr r mC F T) := hid (by rw [← HmC.out]; exact HS.out.it)
        go_upto_region 5 with fail
        refine wp_region_lit ?_
        refine wpList_next_pn rfl (.tmp 28) rfl r mC F T rfl Hpn.out Hit.out ?_ ?_
        · as_aux_lemma =>
          intro hT
          have hD : D = H.cond := by
            funext k
            cases hk : H.cond k with
            | false =>
              cases hd : D k with
              | false => rfl
              | true => have := HS.out.dd k hd; rw [hk] at this; cases this
            | true =>
              cases hd : D k with
              | true => rfl
              | false => have := HS.out.dc k hk hd; rw [hT] at this; cases this
          have HM2 : Hid (HM wr ρ L (baseH H wd)) := hid (by rw [hb, ← hD]; exact HS.out.hm)
          have HF2 := hid HS.out.fr
          have HPl2 := hid (place_walk HM2.out wd (by have := Hwd.out; omega) (by have := Hwd.out; omega))
          rw [HhB.out] at HPl2
          unfold plcV at HPl2
          obtain ⟨p1, hp1⟩ : ∃ p1, placeP (baseH H wd).taken wd = p1 := ⟨_, rfl⟩
          rw [hp1] at HPl2
          have Hp1 := hid hp1
          obtain ⟨pv1, hpv1⟩ : ∃ pv, ((p1.getD 0 : Nat) : Int) = pv := ⟨_, rfl⟩
          obtain ⟨pb1, hpb1⟩ : ∃ pb, p1.isSome = pb := ⟨_, rfl⟩
          rw [hpv1, hpb1] at HPl2
          have Hpv1 := hid (And.intro hpv1 hpb1)
          clear HS Hpn Hit hT hD hp1 hpv1 hpb1
          go_frame
          go_wp2_with fail
          refine (HPl2.out).mono ?_
          rintro e w3 ⟨rfl, rfl⟩
          clear HPl2
          cases pb1 with
          | false =>
            obtain rfl : p1 = none := by cases p1 with | none => rfl | some y => exact absurd Hpv1.out.2 (by simp)
            go_wp2
            refine bodyPost_ret (v := .tuple #[.int .u64 0, .bool false]) (by simp [results, Tryd.results66, go_sem]) rfl ?_
            show AllocP _ _ _ _ _ _ _ _ _
            unfold AllocP
            rw [Hwd.out, Hp1.out]
            exact ⟨rfl, HM2.out, HF2.out⟩
          | true =>
            obtain ⟨s, rfl⟩ : ∃ s, p1 = some s := Option.isSome_iff_exists.1 Hpv1.out.2
            obtain rfl : ((s : Nat) : Int) = pv1 := Hpv1.out.1
            go_wp2_with fail
            go_meet
            case rel => exact ⟨s, rfl, rfl, Hp1.out, HM2, HF2⟩
        · as_aux_lemma =>
          intro e w2 he heT hpn2 hit2 hu2 hsz2 hen2
          obtain ⟨hce, hDe⟩ := HS.out.tc e.k heT
          obtain ⟨x, hx⟩ := HW.out.cd e.k hce
          obtain ⟨s, hs, hle⟩ := HW.out.rng e.k x hx
          have hru : ρ r = 0 := HS.out.r0
          have HM2 : Hid (HM w2 ρ L (freed H D)) := hid (HS.out.hm.other hu2 (.inl hru))
          have hx2 : (freed H D).objs e.k = some x := by unfold freed; dsimp only; rw [if_neg (by rw [hDe]; simp)]; exact hx
          have hc2 : (freed H D).cond e.k = true := by unfold freed; dsimp only; rw [hce, hDe]; rfl
          have HFr := hid (free_walk HM2.out (s := s) (x := x) (by rw [← hs]; exact hx2) (by rw [← hs]; exact hc2) hle)
          rw [← hs, HhB.out] at HFr
          obtain ⟨ck, hpk⟩ := hpn2.k
          have HPk := hid hpk
          have HI2 := hid hit2
          have HF2 : Hid (Fr ρ w1 ρ w2) := hid ⟨hu2.os.trans HS.out.fr.os, hu2.tape.trans HS.out.fr.tape, hu2.output.trans HS.out.fr.output, Nat.le_trans HS.out.fr.size hu2.size, fun _ _ => rfl, fun g hg h0 => (hu2.block g (Nat.lt_of_lt_of_le hg HS.out.fr.size) (by have := HS.out.rw; omega)).trans (HS.out.fr.blk g hg h0)⟩
          have Hn : Hid (mapN wr mC = F.length) := hid Hpn.out.mapN
          have Hk : Hid (e ∈ F ∧ e.k ∈ T ∧ H.cond e.k = true ∧ D e.k = false ∧ H.objs e.k = some x) := hid ⟨he, heT, hce, hDe, hx⟩
          clear hce hDe hx hs hle hx2 hc2 hpk hpn2 hit2 hu2 he heT Hpn
          obtain ⟨ek, hek⟩ : ∃ ek, e.k = ek := ⟨_, rfl⟩
          rw [hek] at hen2 HFr
          have Hek := hid hek
          obtain ⟨ev, hev⟩ : ∃ ev, e.v = ev := ⟨_, rfl⟩
          rw [hev] at hen2
          rw [hek, hev]
          clear hek hev
          go_frame
          go_wp2_with fail
          refine (HFr.out).mono ?_
          rintro e' w3 ⟨rfl, hfp⟩
          have hpk3 := hfp.cd F ck (by rw [HmC.out]; exact HPk.out)
          have hr3 : w3.heap[r]? = w2.heap[r]? := hfp.fr.blk r (by have := HI2.out.lt; exact this) (by rw [HS.out.r0]; omega)
          have HS3 : Hid (FrS w1 ρ L H r (fup D ek true) (F.filter fun p => decide (p.k ≠ ek)) (T.filter fun k => decide (k ≠ ek)) w3) := hid ⟨by
              have := hfp.hm
              rw [← Hek.out, freed_step H D Hk.out.2.2.2.2 Hk.out.2.2.2.1] at this
              rw [← Hek.out]
              exact this, HF2.out.trans hfp.fr, hpk3.pn, by
              have h1 := HI2.out
              rw [Hek.out] at h1
              exact (show IT w2 r L.mC F _ by rw [HmC.out]; exact h1).del (by simp) (by rw [HmC.out]; exact HPk.out) hpk3 hr3, fun e2 he2 => by
              obtain ⟨g1, g2⟩ := List.mem_filter.1 he2
              exact List.mem_filter.2 ⟨HS.out.ft e2 g1, g2⟩, fun k hk => by
              obtain ⟨g1, g2⟩ := List.mem_filter.1 hk
              obtain ⟨g3, g4⟩ := HS.out.tc k g1
              exact ⟨g3, by rw [fup_ne _ _ (of_decide_eq_true g2)]; exact g4⟩, HS.out.r0, HS.out.rw, fun k hk hd => by
              by_cases hke : k = ek
              · subst hke; rw [fup_self] at hd; cases hd
              · rw [fup_ne _ _ hke] at hd
                exact List.mem_filter.2 ⟨HS.out.dc k hk hd, decide_eq_true hke⟩, fun k hk => by
              by_cases hke : k = ek
              · rw [hke, ← Hek.out]; exact Hk.out.2.2.1
              · rw [fup_ne _ _ hke] at hk; exact HS.out.dd k hk⟩
          have Hn3 : Hid (mapN w3 mC < F.length) := hid (by
            have h1 := hpk3.pn.mapN
            rw [HmC.out] at h1
            rw [h1]
            have hsub : (F.filter fun p => decide (p.k ≠ ek)).length < F.length := by
              apply List.length_filter_lt_length_iff_exists.2
              exact ⟨e, Hk.out.1, by simp [Hek.out]⟩
            exact hsub)
          clear hfp hpk3 hr3 HS HFr HM2 HF2 HI2 HPk
          go_wp2
          exact ⟨⟨_, _, _, HS3⟩, by rw [Hn.out]; exact Hn3.out⟩
  case rest =>
  rename World => wc0
  obtain ⟨s, rfl, rfl, hpl, HMb, HFb⟩ := hcut
  have HPl := hid hpl
  obtain ⟨G, hG⟩ : ∃ G, baseH H wd = G := ⟨_, rfl⟩
  rw [hG] at HMb HPl
  have HG := hid hG
  have hfit : s + wd ≤ 32768 := placeP_fit HPl.out
  have Hfit := hid hfit
  obtain ⟨tB, htB⟩ : ∃ b, L.tB = b := ⟨_, rfl⟩
  have HtB := hid htB
  clear hpl hG hfit htB
  have i4 : (m : Int) < 4 := by omega
  clear hs1
  go_wp2_with fail
  go_loopw [13] (fun v wr => ∃ j : Nat, j ≤ wd ∧ v = .int .i64 (((s + j : Nat)) : Int) ∧ Hid (HM wr ρ L { G with taken := fillT G.taken s j true }) ∧ Hid (Fr ρ w1 ρ wr)) (fun v _ => s + wd - (intOf v).toNat)
  case atStart => exact ⟨0, by omega, rfl, hid (by rw [fillT_0]; exact HMb.out), HFb⟩
  case round =>
    clear HMb HFb
    obtain ⟨j, hj, rfl, HM1, HF1⟩ := hrel
    by_cases hlt : j < wd
    · as_aux_lemma =>
      have dk : decide ((((s + j : Nat)) : Int) < (s : Int) + (wd : Int)) = true := decide_eq_true (by omega)
      have dk' : decide ((s : Int) + (j : Int) < (s : Int) + (wd : Int)) = true := decide_eq_true (by omega)
      have b9 : (s : Int) + (wd : Int) ≤ 1000000 := by have := Hfit.out; omega
      go_upto_region 14 with fail
      clear dk dk'
      have c1 : wr.cell? ⟨hB, 1, none⟩ = some (.slice (some ⟨tB, 0, none⟩) 32768 32768) := by rw [← HhB.out, ← HtB.out]; exact HM1.out.cells.2.1
      have hlt2 : s + j < 32768 := by have := Hfit.out; omega
      have c2 : wr.cell? ⟨tB, s + j, none⟩ = some (.bool (fillT G.taken s j true (s + j))) := by rw [← HtB.out]; exact HM1.out.tcell hlt2
      have f2 : wr.frozen? ⟨tB, s + j, none⟩ = false := by rw [← HtB.out]; exact HM1.out.tk.frozen _
      have HM2 : Hid (HM (wr.setCell ⟨tB, s + j, none⟩ (.bool true)) ρ L { G with taken := fillT G.taken s (j + 1) true }) := hid (by
        have := HM1.out.setT (i := s + j) hlt2 true
        rw [HtB.out] at this
        rw [← fillT_s]
        exact this)
      have hu2 : Upd tB wr (wr.setCell ⟨tB, s + j, none⟩ (.bool true)) := (Upd.refl tB wr).setCell (p := ⟨tB, s + j, none⟩) rfl _
      have HF2 : Hid (Fr ρ w1 ρ (wr.setCell ⟨tB, s + j, none⟩ (.bool true))) := hid (HF1.out.trans (Fr.upd hu2 (by rw [← HtB.out, HM1.out.r2]; omega)))
      have i5 : (s : Int) + (j : Int) < 32768 := by omega
      have i5' : (((s + j : Nat)) : Int) < 32768 := by omega
      clear hu2 HM1 HF1 hlt2
      generalize fillT G.taken s j true (s + j) = b0 at c2
      go_wp2
      exact ⟨⟨j + 1, by omega, by go_num, HM2, HF2⟩, by simp [intOf]; omega⟩
    as_aux_lemma =>
    have hje : j = wd := by omega
    subst hje
    have dk : decide ((((s + j : Nat)) : Int) < (s : Int) + (j : Int)) = false := decide_eq_false (by omega)
    have dk' : decide ((s : Int) + (j : Int) < (s : Int) + (j : Int)) = false := decide_eq_false (by omega)
    have b9 : (s : Int) + (j : Int) ≤ 1000000 := by have := Hfit.out; omega
    obtain ⟨ad, had⟩ : ∃ ad : Nat, 65536 + s = ad := ⟨_, rfl⟩
    have hw65 : (65536 : Int) + (s : Int) = (ad : Int) := by omega
    have Had := hid had
    have hfree : G.objs (65536 + s) = none := by
      have := (HW.out.base j)
      rw [HG.out] at this
      exact this.gap (by have := Hwd.out; omega) HPl.out
    obtain ⟨mO, hmO⟩ : ∃ b, L.mO = b := ⟨_, rfl⟩
    have HmO := hid hmO
    have hsr : (size : Int) - (refs : Int) = ((size - refs : Nat) : Int) := by omega
    have hmk1 := fun w => make_addr refs (by omega) w
    have hmk2 := fun w => make_data (size - refs) (by omega) w
    have s9 : (s : Int) ≤ 1000000 := by omega
    clear hmO b9 had
    go_upto_region 16 with fail
    refine wp_region_fork (fun w' => Below wr.heap.size wr w') 13 [0, 1, 2, 3, 4, 5, 7, 8, 9] 6 10 [11, 12] rfl (by kernel_rfl) (by kernel_rfl) (fun d _ _ _ _ h => by cases d <;> exact h) (Drew.below ⟨1, rfl⟩ _) ?_
    apply Exists.intro
    refine ⟨?_, ?_, ?_⟩
    · intro W hW
      have d0 : ∀ y, (W y).cell? ⟨hB, 0, none⟩ = some (.map (some mO)) := fun y => by rw [← HhB.out, ← HmO.out]; exact (HM1.out.below (hW y)).cells.1
      clear hW
      simp only [List.take, opsAt, List.drop, List.cons_append, List.nil_append]
      repeat (go_big_quiet_step (fail))
      exact rfl
    · simp only [List.take, List.drop, opsAt, List.cons_append, List.nil_append, wpHv]
      as_aux_lemma =>
      have HB0 : Hid (Below wr.heap.size wr wr.drew) := hid (Drew.below ⟨1, rfl⟩ _)
      generalize wr.drew = wd0 at HB0 ⊢
      obtain ⟨q, hq⟩ : ∃ q, wd0.heap.size = q := ⟨_, rfl⟩
      have HM3 := hid (HM1.out.below HB0.out)
      obtain ⟨E, p1, p2, p3⟩ := HM3.out.mo
      rw [HmO.out] at p1
      have hne : ∀ e ∈ E, e.k ≠ 65536 + s := fun e he hek => by
        have := (p3 (65536 + s)).1 ⟨e, he, hek⟩
        rw [show ({ G with taken := fillT G.taken s j true } : HS).objs = G.objs from rfl, hfree] at this
        cases this
      obtain ⟨wa, hwa⟩ : ∃ wa, wd0.alloc (.cells (aC (List.replicate refs 0)).toArray 50) = wa := ⟨_, rfl⟩
      obtain ⟨wb, hwb⟩ : ∃ wb, wa.alloc (.cells (aC (List.replicate (size - refs) 0)).toArray 29) = wb := ⟨_, rfl⟩
      obtain ⟨wm, hwm⟩ : ∃ wm, wb.alloc (.cells #[.slice (some ⟨q, 0, none⟩) refs refs, .slice (some ⟨(q + 1), 0, none⟩) (size - refs) (size - refs)] 90) = wm := ⟨_, rfl⟩
      have sa : wa.heap.size = q + 1 := by rw [← hwa]; simp [hq]
      have sb : wb.heap.size = q + 2 := by rw [← hwb]; simp [sa]
      have sm : wm.heap.size = q + 3 := by rw [← hwm]; simp [sb]
      have ba : Below wd0.heap.size wd0 wa := by rw [← hwa]; exact nbel _ _
      have bb : Below wa.heap.size wa wb := by rw [← hwb]; exact nbel _ _
      have bm : Below wb.heap.size wb wm := by rw [← hwm]; exact nbel _ _
      have bbb : Below wd0.heap.size wd0 wb := ba.trans (bb.mono ba.size)
      have bmm : Below wd0.heap.size wd0 wm := bbb.trans (bm.mono bbb.size)
      have x1 : Blk wa q 50 (aC (List.replicate refs 0)) := by have := Blk.new wd0 (aC (List.replicate refs 0)) 50; rw [hq, hwa] at this; exact this
      have x2 : Blk wb (q + 1) 29 (aC (List.replicate (size - refs) 0)) := by have := Blk.new wa (aC (List.replicate (size - refs) 0)) 29; rw [sa, hwb] at this; exact this
      have x3 : Blk wm (q + 2) 90 [.slice (some ⟨q, 0, none⟩) refs refs, .slice (some ⟨(q + 1), 0, none⟩) (size - refs) (size - refs)] := by have := Blk.new wb [.slice (some ⟨q, 0, none⟩) refs refs, .slice (some ⟨(q + 1), 0, none⟩) (size - refs) (size - refs)] 90; rw [sb, hwm] at this; exact this
      obtain ⟨w9, b9', hrun, hp9, hu9⟩ := (p1.below bmm).put Tryd.underlying78 und_addr (65536 + s) (.pointer (some ⟨q + 2, 0, none⟩)) hne
      rw [Had.out] at hrun
      have HN9 : Hid (HM w9 (fup (fup (fup ρ q (65 + 3 * (65536 + s))) (q + 1) (66 + 3 * (65536 + s))) (q + 2) (64 + 3 * (65536 + s))) { L with ob := fup L.ob (65536 + s) (q + 2), rb := fup L.rb (65536 + s) q, db := fup L.db (65536 + s) (q + 1) } { G with objs := fup G.objs (65536 + s) (some (newOb size refs)), taken := fillT G.taken s j true }) := hid (by
        refine HM3.out.newObj (E := E) (b := b9') hfree (by omega) hr bmm.size (fun g hg => ⟨bmm.block g hg, by rw [fup_ne _ _ (by omega), fup_ne _ _ (by omega), fup_ne _ _ (by omega)]⟩) (fun g hg => ?_) x3 ?_ ?_ ?_ ?_ ?_ (by rw [HmO.out]; exact p1) (by rw [HmO.out]; exact hu9) (by rw [HmO.out]; exact hp9)
        · rw [sm]
          by_cases h1 : g = q + 2
          · omega
          · rw [fup_ne _ _ h1] at hg
            by_cases h2 : g = q + 1
            · omega
            · rw [fup_ne _ _ h2] at hg
              by_cases h3 : g = q
              · omega
              · rw [fup_ne _ _ h3] at hg
                have := HM3.out.dom g hg
                omega
        · exact (x1.below bb).below bm
        · exact x2.below bm
        · rw [fup_self]
        · rw [fup_ne _ _ (by omega), fup_ne _ _ (by omega), fup_self]
        · rw [fup_ne _ _ (by omega), fup_self])
      have HF9 : Hid (Fr ρ w1 (fup (fup (fup ρ q (65 + 3 * (65536 + s))) (q + 1) (66 + 3 * (65536 + s))) (q + 2) (64 + 3 * (65536 + s))) w9) := hid (by
        refine (HF1.out.trans (Fr.below HB0.out)).trans ⟨hu9.os.trans bmm.os, hu9.tape.trans bmm.tape, hu9.output.trans bmm.output, Nat.le_trans bmm.size hu9.size, fun g hg => by rw [fup_ne _ _ (by omega), fup_ne _ _ (by omega), fup_ne _ _ (by omega)], fun g hg h0 => (hu9.block g (by omega) (fun e => ?_)).trans (bmm.block g hg)⟩
        rw [e, ← HmO.out, HM3.out.r3] at h0
        omega)
      have SA : Hid (Below wr.heap.size wr wa) := hid (HB0.out.trans (ba.mono HB0.out.size))
      have SB : Hid (Below wr.heap.size wr wb) := hid (HB0.out.trans (bbb.mono HB0.out.size))
      have SM : Hid (Below wr.heap.size wr wm) := hid (HB0.out.trans (bmm.mono HB0.out.size))
      clear p1 p2 p3 hne ba bb bm bbb bmm x1 x2 x3 hp9 hu9 HM3 HB0
      go_wp2_with fail
      (try simp only [hwa, hq])
      refine ⟨SA.out, ?_⟩
      go_wp2_with fail
      (try simp only [hwb, sa])
      refine ⟨SB.out, ?_⟩
      go_wp2_with fail
      refine ⟨SB.out, ?_⟩
      go_wp2_with fail
      (try simp only [hwm, sb])
      refine ⟨SM.out, ?_⟩
      simp only [QN]
      go_upto_region 17 with fail
      clear hrun hwa hwb hwm sa sb sm
      have c9 : w9.cell? ⟨hB, 6 + m, none⟩ = some (.bool (G.run m)) := by rw [← HhB.out]; exact HN9.out.ncell hm
      have f9 : w9.frozen? ⟨hB, 6 + m, none⟩ = false := by rw [← HhB.out]; exact HN9.out.hb.frozen _
      have HR := hid (HN9.out.runs hm true)
      have HR2 : Hid (HM (w9.setCell ⟨hB, 6 + m, none⟩ (.bool true)) _ _ _ ∧ Fr _ w9 _ (w9.setCell ⟨hB, 6 + m, none⟩ (.bool true))) := hid (by have := HR.out; rw [show ({ L with ob := fup L.ob (65536 + s) (q + 2), rb := fup L.rb (65536 + s) q, db := fup L.db (65536 + s) (q + 1) } : HL).hB = hB from HhB.out] at this; exact this)
      clear HR
      go_wp2_with fail
      refine bodyPost_ret (v := .tuple #[.int .u64 (ad : Int), .bool true]) (by simp [results, Tryd.results66, go_sem]) rfl ?_
      show AllocP _ _ _ _ _ _ _ _ _
      unfold AllocP
      rw [Hwd.out, HG.out, HPl.out]
      dsimp only
      unfold mkH
      rw [Hwd.out]
      exact ⟨by rw [Had.out], _, _, HR2.out.1, HhB.out.symm, HF9.out.trans HR2.out.2⟩
    · simp only [List.take, List.drop, opsAt, List.cons_append, List.nil_append, wpHv]
      as_aux_lemma =>
      have HB0 : Hid (Below wr.heap.size wr wr.drew) := hid (Drew.below ⟨1, rfl⟩ _)
      generalize wr.drew = wd0 at HB0 ⊢
      obtain ⟨q, hq⟩ : ∃ q, wd0.heap.size = q := ⟨_, rfl⟩
      have HM3 := hid (HM1.out.below HB0.out)
      obtain ⟨E, p1, p2, p3⟩ := HM3.out.mo
      rw [HmO.out] at p1
      have hne : ∀ e ∈ E, e.k ≠ 65536 + s := fun e he hek => by
        have := (p3 (65536 + s)).1 ⟨e, he, hek⟩
        rw [show ({ G with taken := fillT G.taken s j true } : HS).objs = G.objs from rfl, hfree] at this
        cases this
      obtain ⟨wa, hwa⟩ : ∃ wa, wd0.alloc (.cells (aC (List.replicate (size - refs) 0)).toArray 29) = wa := ⟨_, rfl⟩
      obtain ⟨wb, hwb⟩ : ∃ wb, wa.alloc (.cells (aC (List.replicate refs 0)).toArray 50) = wb := ⟨_, rfl⟩
      obtain ⟨wm, hwm⟩ : ∃ wm, wb.alloc (.cells #[.slice (some ⟨(q + 1), 0, none⟩) refs refs, .slice (some ⟨q, 0, none⟩) (size - refs) (size - refs)] 90) = wm := ⟨_, rfl⟩
      have sa : wa.heap.size = q + 1 := by rw [← hwa]; simp [hq]
      have sb : wb.heap.size = q + 2 := by rw [← hwb]; simp [sa]
      have sm : wm.heap.size = q + 3 := by rw [← hwm]; simp [sb]
      have ba : Below wd0.heap.size wd0 wa := by rw [← hwa]; exact nbel _ _
      have bb : Below wa.heap.size wa wb := by rw [← hwb]; exact nbel _ _
      have bm : Below wb.heap.size wb wm := by rw [← hwm]; exact nbel _ _
      have bbb : Below wd0.heap.size wd0 wb := ba.trans (bb.mono ba.size)
      have bmm : Below wd0.heap.size wd0 wm := bbb.trans (bm.mono bbb.size)
      have x1 : Blk wa q 29 (aC (List.replicate (size - refs) 0)) := by have := Blk.new wd0 (aC (List.replicate (size - refs) 0)) 29; rw [hq, hwa] at this; exact this
      have x2 : Blk wb (q + 1) 50 (aC (List.replicate refs 0)) := by have := Blk.new wa (aC (List.replicate refs 0)) 50; rw [sa, hwb] at this; exact this
      have x3 : Blk wm (q + 2) 90 [.slice (some ⟨(q + 1), 0, none⟩) refs refs, .slice (some ⟨q, 0, none⟩) (size - refs) (size - refs)] := by have := Blk.new wb [.slice (some ⟨(q + 1), 0, none⟩) refs refs, .slice (some ⟨q, 0, none⟩) (size - refs) (size - refs)] 90; rw [sb, hwm] at this; exact this
      obtain ⟨w9, b9', hrun, hp9, hu9⟩ := (p1.below bmm).put Tryd.underlying78 und_addr (65536 + s) (.pointer (some ⟨q + 2, 0, none⟩)) hne
      rw [Had.out] at hrun
      have HN9 : Hid (HM w9 (fup (fup (fup ρ q (66 + 3 * (65536 + s))) (q + 1) (65 + 3 * (65536 + s))) (q + 2) (64 + 3 * (65536 + s))) { L with ob := fup L.ob (65536 + s) (q + 2), rb := fup L.rb (65536 + s) (q + 1), db := fup L.db (65536 + s) q } { G with objs := fup G.objs (65536 + s) (some (newOb size refs)), taken := fillT G.taken s j true }) := hid (by
        refine HM3.out.newObj (E := E) (b := b9') hfree (by omega) hr bmm.size (fun g hg => ⟨bmm.block g hg, by rw [fup_ne _ _ (by omega), fup_ne _ _ (by omega), fup_ne _ _ (by omega)]⟩) (fun g hg => ?_) x3 ?_ ?_ ?_ ?_ ?_ (by rw [HmO.out]; exact p1) (by rw [HmO.out]; exact hu9) (by rw [HmO.out]; exact hp9)
        · rw [sm]
          by_cases h1 : g = q + 2
          · omega
          · rw [fup_ne _ _ h1] at hg
            by_cases h2 : g = q + 1
            · omega
            · rw [fup_ne _ _ h2] at hg
              by_cases h3 : g = q
              · omega
              · rw [fup_ne _ _ h3] at hg
                have := HM3.out.dom g hg
                omega
        · exact x2.below bm
        · exact (x1.below bb).below bm
        · rw [fup_self]
        · rw [fup_ne _ _ (by omega), fup_self]
        · rw [fup_ne _ _ (by omega), fup_ne _ _ (by omega), fup_self])
      have HF9 : Hid (Fr ρ w1 (fup (fup (fup ρ q (66 + 3 * (65536 + s))) (q + 1) (65 + 3 * (65536 + s))) (q + 2) (64 + 3 * (65536 + s))) w9) := hid (by
        refine (HF1.out.trans (Fr.below HB0.out)).trans ⟨hu9.os.trans bmm.os, hu9.tape.trans bmm.tape, hu9.output.trans bmm.output, Nat.le_trans bmm.size hu9.size, fun g hg => by rw [fup_ne _ _ (by omega), fup_ne _ _ (by omega), fup_ne _ _ (by omega)], fun g hg h0 => (hu9.block g (by omega) (fun e => ?_)).trans (bmm.block g hg)⟩
        rw [e, ← HmO.out, HM3.out.r3] at h0
        omega)
      have SA : Hid (Below wr.heap.size wr wa) := hid (HB0.out.trans (ba.mono HB0.out.size))
      have SB : Hid (Below wr.heap.size wr wb) := hid (HB0.out.trans (bbb.mono HB0.out.size))
      have SM : Hid (Below wr.heap.size wr wm) := hid (HB0.out.trans (bmm.mono HB0.out.size))
      clear p1 p2 p3 hne ba bb bm bbb bmm x1 x2 x3 hp9 hu9 HM3 HB0
      go_wp2_with fail
      (try simp only [hwa, hq])
      refine ⟨SA.out, ?_⟩
      go_wp2_with fail
      (try simp only [hwb, sa])
      refine ⟨SB.out, ?_⟩
      go_wp2_with fail
      refine ⟨SB.out, ?_⟩
      go_wp2_with fail
      (try simp only [hwm, sb])
      refine ⟨SM.out, ?_⟩
      simp only [QN]
      go_upto_region 17 with fail
      clear hrun hwa hwb hwm sa sb sm
      have c9 : w9.cell? ⟨hB, 6 + m, none⟩ = some (.bool (G.run m)) := by rw [← HhB.out]; exact HN9.out.ncell hm
      have f9 : w9.frozen? ⟨hB, 6 + m, none⟩ = false := by rw [← HhB.out]; exact HN9.out.hb.frozen _
      have HR := hid (HN9.out.runs hm true)
      have HR2 : Hid (HM (w9.setCell ⟨hB, 6 + m, none⟩ (.bool true)) _ _ _ ∧ Fr _ w9 _ (w9.setCell ⟨hB, 6 + m, none⟩ (.bool true))) := hid (by have := HR.out; rw [show ({ L with ob := fup L.ob (65536 + s) (q + 2), rb := fup L.rb (65536 + s) (q + 1), db := fup L.db (65536 + s) q } : HL).hB = hB from HhB.out] at this; exact this)
      clear HR
      go_wp2_with fail
      refine bodyPost_ret (v := .tuple #[.int .u64 (ad : Int), .bool true]) (by simp [results, Tryd.results66, go_sem]) rfl ?_
      show AllocP _ _ _ _ _ _ _ _ _
      unfold AllocP
      rw [Hwd.out, HG.out, HPl.out]
      dsimp only
      unfold mkH
      rw [Hwd.out]
      exact ⟨by rw [Had.out], _, _, HR2.out.1, HhB.out.symm, HF9.out.trans HR2.out.2⟩
end
end Go.Proofs.Qxb6500889aDoor
