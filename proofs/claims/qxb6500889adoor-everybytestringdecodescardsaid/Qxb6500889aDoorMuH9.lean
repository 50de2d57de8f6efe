/- The heap: Safepoint. -/
import Derived.Test.Qxb6500889aDoorMuH8
namespace Go.Proofs.Qxb6500889aDoor
open Go.RowKit
set_option linter.unusedSimpArgs false
set_option linter.unusedVariables false

open Classical in
noncomputable def condD (H : HS) (D : Nat → Bool) : Nat → Bool := fun a => H.cond a || (D a && decide (¬ Rr H a))
def anyRun (H : HS) : Bool := H.run 0 || H.run 1 || H.run 2 || H.run 3
def offRun (H : HS) (m : Nat) : HS := { H with run := fup H.run m false }
noncomputable def safeH (H : HS) (m : Nat) : HS := if anyRun (offRun H m) = true then offRun H m else { offRun H m with cond := condD (offRun H m) (fun a => (H.objs a).isSome) }
section
variable {w w' : World} {ρ ρ' : Rl} {L : HL} {H : HS}
/-- While the unreached are condemned. -/
structure SfS (w : World) (ρ : Rl) (L : HL) (H : HS) (r q : Nat) (E R : List Ent) (D : Nat → Bool) (T : List Nat) (wr : World) : Prop where
  hm : HM wr ρ L { H with cond := condD H D }
  fr : Fr ρ w ρ wr
  pn : PN wr L.mO E
  it : IT wr q L.mO E T
  pr : PN wr r R
  r0 : ρ r = 0 ∧ ρ q = 0
  rw : w.heap.size ≤ r ∧ w.heap.size ≤ q ∧ r ≠ q
  dt : ∀ a, D a = true ↔ (∃ e ∈ E, e.k = a) ∧ a ∉ T
theorem condD_none (H : HS) : condD H (fun _ => false) = H.cond := by funext a; simp [condD]
theorem condD_reach {H : HS} {D : Nat → Bool} {a : Nat} (h : Rr H a) : condD H (fup D a true) = condD H D := by
  funext b
  unfold condD fup
  by_cases hb : b = a
  · subst hb; simp [h]
  · simp [hb]
theorem condD_cut {H : HS} {D : Nat → Bool} {a : Nat} (h : ¬ Rr H a) : condD H (fup D a true) = fup (condD H D) a true := by
  funext b
  unfold condD fup
  by_cases hb : b = a
  · subst hb; simp [h]
  · simp [hb]
set_option maxRecDepth 1000000 in
set_option maxHeartbeats 4000000 in
theorem safepoint_walk (h : HM w ρ L H) (hwf : Wf H) {m : Nat} (hm : m < 4) (hrl : ∀ m, m < 4 → (H.roots m).length ≤ 64) (hcl : ∀ a, Rr (offRun H m) a → ∃ x, H.objs a = some x) :
    Calls Tryd.prog 77 #[.pointer (some ⟨L.hB, 0, none⟩), .int .i64 (m : Int)] w fun e w' => e = .returned (.tuple #[]) ∧ HM w' ρ L (safeH H m) ∧ Fr ρ w ρ w' := by
  have HRl := hid hrl
  have HCl := hid hcl
  have HW : Hid (Wf (offRun H m)) := hid ⟨hwf.rng, hwf.cd, hwf.tk, hwf.dj⟩
  obtain ⟨hB, hhB⟩ : ∃ b, L.hB = b := ⟨_, rfl⟩
  obtain ⟨mO, hmO⟩ : ∃ b, L.mO = b := ⟨_, rfl⟩
  obtain ⟨mC, hmC⟩ : ∃ b, L.mC = b := ⟨_, rfl⟩
  have HhB := hid hhB
  have HmO := hid hmO
  have HmC := hid hmC
  have c0 : w.cell? ⟨hB, 6 + m, none⟩ = some (.bool (H.run m)) := by rw [← hhB]; exact h.ncell hm
  have f0 : w.frozen? ⟨hB, 6 + m, none⟩ = false := by rw [← hhB]; exact h.hb.frozen _
  have HR := hid (h.runs hm false)
  rw [hhB] at HR
  rw [hhB]
  have i4 : (m : Int) < 4 := by omega
  obtain ⟨bm, hbm⟩ : ∃ b, H.run m = b := ⟨_, rfl⟩
  rw [hbm] at c0
  obtain ⟨G, hG⟩ : ∃ G, offRun H m = G := ⟨_, rfl⟩
  have HG := hid hG
  have HR1 : Hid (HM (w.setCell ⟨hB, 6 + m, none⟩ (.bool false)) ρ L G ∧ Fr ρ w ρ (w.setCell ⟨hB, 6 + m, none⟩ (.bool false))) := hid (by rw [← hG]; exact HR.out)
  rw [hG] at HW HCl
  have HCl2 : Hid (∀ a, Rr G a → ∃ x, G.objs a = some x) := hid (by intro a ha; have := HCl.out a ha; rw [← hG]; exact this)
  have HRl2 : Hid (∀ m, m < 4 → (G.roots m).length ≤ 64) := hid (by rw [← hG]; exact HRl.out)
  clear h hwf hrl hcl hhB hmO hmC hbm hG HR HCl HRl
  go_enter Tryd.func77, Tryd.ntmps77
  go_upto_region 1 with fail
  generalize w.setCell ⟨hB, 6 + m, none⟩ (.bool false) = w1 at HR1 ⊢
  clear c0 f0
  have c6 : w1.cell? ⟨hB, 6, none⟩ = some (.bool (G.run 0)) := by rw [← HhB.out]; exact HR1.out.1.ncell (m := 0) (by omega)
  have c7 : w1.cell? ⟨hB, 7, none⟩ = some (.bool (G.run 1)) := by rw [← HhB.out]; exact HR1.out.1.ncell (m := 1) (by omega)
  have c8 : w1.cell? ⟨hB, 8, none⟩ = some (.bool (G.run 2)) := by rw [← HhB.out]; exact HR1.out.1.ncell (m := 2) (by omega)
  have c9 : w1.cell? ⟨hB, 9, none⟩ = some (.bool (G.run 3)) := by rw [← HhB.out]; exact HR1.out.1.ncell (m := 3) (by omega)
  obtain ⟨b0, hb0⟩ : ∃ b, G.run 0 = b := ⟨_, rfl⟩
  obtain ⟨b1, hb1⟩ : ∃ b, G.run 1 = b := ⟨_, rfl⟩
  obtain ⟨b2, hb2⟩ : ∃ b, G.run 2 = b := ⟨_, rfl⟩
  obtain ⟨b3, hb3⟩ : ∃ b, G.run 3 = b := ⟨_, rfl⟩
  rw [hb0] at c6
  rw [hb1] at c7
  rw [hb2] at c8
  rw [hb3] at c9
  have HAny : Hid (anyRun G = (b0 || b1 || b2 || b3)) := hid (by unfold anyRun; rw [hb0, hb1, hb2, hb3])
  have HRet : Hid ((b0 || b1 || b2 || b3) = true → HM w1 ρ L (safeH H m) ∧ Fr ρ w ρ w1) := hid (fun hb => by
    have : safeH H m = G := by unfold safeH; rw [HG.out, if_pos (by rw [HAny.out]; exact hb)]
    rw [this]
    exact HR1.out)
  clear hb0 hb1 hb2 hb3
  go_wp2_with fail
  clear c6 c7 c8 c9
  go_loopw [17] (fun i wr => ∃ k : Nat, k ≤ 4 ∧ i = .int .i64 (k : Int) ∧ wr = w1 ∧ Hid ((0 < k → b0 = false) ∧ (1 < k → b1 = false) ∧ (2 < k → b2 = false) ∧ (3 < k → b3 = false))) (fun i _ => 4 - (intOf i).toNat)
  case atStart => exact ⟨0, by omega, rfl, rfl, hid ⟨by omega, by omega, by omega, by omega⟩⟩
  case round =>
    obtain ⟨k, hk, rfl, rfl, HZ⟩ := hrel
    by_cases hlt : k < 4
    · as_aux_lemma =>
      rcases (by omega : k = 0 ∨ k = 1 ∨ k = 2 ∨ k = 3) with rfl | rfl | rfl | rfl
      · have hix := fun w => idx_b0 (.bool b0) (.bool b1) (.bool b2) (.bool b3) w
        cases b0 with
        | true =>
          go_wp2
          exact bodyPost_ret (v := .tuple #[]) (by simp [results, Tryd.results77, go_sem]) rfl ⟨rfl, HRet.out (by simp)⟩
        | false =>
          go_wp2
          exact ⟨⟨1, by omega, by go_num, by first | rfl | trivial, hid ⟨fun _ => (by first | rfl | trivial), by omega, by omega, by omega⟩⟩, by simp [intOf]⟩
      · have hix := fun w => idx_b1 (.bool b0) (.bool b1) (.bool b2) (.bool b3) w
        cases b1 with
        | true =>
          go_wp2
          exact bodyPost_ret (v := .tuple #[]) (by simp [results, Tryd.results77, go_sem]) rfl ⟨rfl, HRet.out (by simp)⟩
        | false =>
          go_wp2
          exact ⟨⟨2, by omega, by go_num, by first | rfl | trivial, hid ⟨fun _ => HZ.out.1 (by omega), fun _ => (by first | rfl | trivial), by omega, by omega⟩⟩, by simp [intOf]⟩
      · have hix := fun w => idx_b2 (.bool b0) (.bool b1) (.bool b2) (.bool b3) w
        cases b2 with
        | true =>
          go_wp2
          exact bodyPost_ret (v := .tuple #[]) (by simp [results, Tryd.results77, go_sem]) rfl ⟨rfl, HRet.out (by simp)⟩
        | false =>
          go_wp2
          exact ⟨⟨3, by omega, by go_num, by first | rfl | trivial, hid ⟨fun _ => HZ.out.1 (by omega), fun _ => HZ.out.2.1 (by omega), fun _ => (by first | rfl | trivial), by omega⟩⟩, by simp [intOf]⟩
      · have hix := fun w => idx_b3 (.bool b0) (.bool b1) (.bool b2) (.bool b3) w
        cases b3 with
        | true =>
          go_wp2
          exact bodyPost_ret (v := .tuple #[]) (by simp [results, Tryd.results77, go_sem]) rfl ⟨rfl, HRet.out (by simp)⟩
        | false =>
          go_wp2
          exact ⟨⟨4, by omega, by go_num, by first | rfl | trivial, hid ⟨fun _ => HZ.out.1 (by omega), fun _ => HZ.out.2.1 (by omega), fun _ => HZ.out.2.2.1 (by omega), fun _ => (by first | rfl | trivial)⟩⟩, by simp [intOf]⟩
    as_aux_lemma =>
    have hk4 : k = 4 := by omega
    subst hk4
    rw [show ((4 : Nat) : Int) = 4 from rfl]
    have e0 := HZ.out.1 (by omega)
    have e1 := HZ.out.2.1 (by omega)
    have e2 := HZ.out.2.2.1 (by omega)
    have e3 := HZ.out.2.2.2 (by omega)
    subst e0 e1 e2 e3
    clear HZ HRet
    have HRe := hid (reach_walk HR1.out.1 HW.out HRl2.out HCl2.out)
    rw [HhB.out] at HRe
    go_wp2_with fail
    refine (HRe.out).mono ?_
    rintro e w2 ⟨rfl, hbe2, R, hpr, hrv, hrr⟩
    obtain ⟨r, hr⟩ : ∃ r, wr.heap.size = r := ⟨_, rfl⟩
    rw [hr] at hpr
    have hr0 : ρ r = 0 := by
      apply Classical.byContradiction
      intro hne
      have := HR1.out.1.dom r hne
      omega
    have HM2 := hid (HR1.out.1.below hbe2)
    have HF2 := hid (HR1.out.2.trans (Fr.below hbe2))
    have HPr := hid hpr
    have HRv := hid (And.intro hrv hrr)
    have hrw : w.heap.size ≤ r := by have := HR1.out.2.size; omega
    have hrlt : r < w2.heap.size := hpr.lt
    obtain ⟨E, p1, p2, p3⟩ := HM2.out.mo
    rw [HmO.out] at p1
    have HP1 := hid p1
    have HP3 := hid p3
    have c0 : w2.cell? ⟨hB, 0, none⟩ = some (.map (some mO)) := by rw [← HhB.out, ← HmO.out]; exact HM2.out.cells.1
    obtain ⟨q, hq⟩ : ∃ q, w2.heap.size = q := ⟨_, rfl⟩
    have hq0 : ρ q = 0 := by
      apply Classical.byContradiction
      intro hne
      have := HM2.out.dom q hne
      omega
    clear HRe hpr hrv hrr p1 p2 p3
    simp only [hr]
    clear hr
    go_wp2_with (at_range; refine wpList_range_pn rfl (.tmp 27) 78 rfl Tryd.underlying78 mO E rfl HP1.out ?_; intro w3 hit3 hbe3 hsz3)
    go_frame
    have HS0 : Hid (SfS w ρ L G r q E R (fun _ => false) (E.map (·.k)) w3) := hid ⟨by rw [condD_none]; exact HM2.out.below hbe3, HF2.out.trans (Fr.below hbe3), by rw [HmO.out]; exact HP1.out.below hbe3, by rw [HmO.out, ← hq]; exact hit3, HPr.out.below hbe3, ⟨hr0, hq0⟩, ⟨hrw, by omega, by omega⟩, fun a => ⟨fun h => (by cases h), fun ⟨⟨e, he, hek⟩, hn⟩ => absurd (List.mem_map.2 ⟨e, he, hek⟩) hn⟩⟩
    clear hit3 hbe3 hsz3 c0 HPr HM2 HF2 HP1 hbe2 hrlt hrw hr0 hq0
    simp only [hq]
    clear hq
    go_loopw [7] (fun v wr => ∃ D T, Hid (SfS w ρ L G r q E R D T wr)) (fun _ wr => World.rangeLeft wr mO q)
    case atStart => exact ⟨_, _, HS0⟩
    case round =>
      clear HS0
      obtain ⟨D, T, HS⟩ := hrel
      have Hpn : Hid (PN wr mO E) := hid (by rw [← HmO.out]; exact HS.out.pn)
      have Hit : Hid (IT wr q mO E T) := hid (by rw [← HmO.out]; exact HS.out.it)
      go_upto_region 8 with fail
      refine wp_region_lit ?_
      refine wpList_next_pn rfl (.tmp 28) rfl q mO E T rfl Hpn.out Hit.out ?_ ?_
      · as_aux_lemma =>
        intro hT
        have HF : Hid (HM wr ρ L (safeH H m) ∧ Fr ρ w ρ wr) := hid ⟨by
          have hD : D = fun a => (G.objs a).isSome := by
            funext a
            rw [Bool.eq_iff_iff, HS.out.dt a]
            have h3 := HP3.out a
            constructor
            · rintro ⟨h1, _⟩; exact h3.1 h1
            · intro h1; exact ⟨h3.2 h1, by rw [hT]; simp⟩
          have hs : safeH H m = { G with cond := condD G D } := by
            unfold safeH
            rw [HG.out, if_neg (by rw [HAny.out]; simp), hD]
            have : H.objs = G.objs := by rw [← HG.out]; rfl
            rw [this]
          rw [hs]
          exact HS.out.hm, HS.out.fr⟩
        clear HS Hpn Hit hT
        go_frame
        go_wp2
        exact bodyPost_end (v := .tuple #[]) (by simp [results, Tryd.results77, go_sem]) rfl ⟨rfl, HF.out⟩
      · as_aux_lemma =>
        intro e w4 he heT hpn4 hit4 hu4 hsz4 hen4
        have HM4 : Hid (HM w4 ρ L { G with cond := condD G D }) := hid (HS.out.hm.other hu4 (.inl HS.out.r0.2))
        have HF4 : Hid (Fr ρ w ρ w4) := hid ⟨hu4.os.trans HS.out.fr.os, hu4.tape.trans HS.out.fr.tape, hu4.output.trans HS.out.fr.output, Nat.le_trans HS.out.fr.size hu4.size, fun _ _ => rfl, fun g hg h0 => (hu4.block g (Nat.lt_of_lt_of_le hg HS.out.fr.size) (by have := HS.out.rw; omega)).trans (HS.out.fr.blk g hg h0)⟩
        have hpr4 : PN w4 r R := HS.out.pr.upd hu4 HS.out.rw.2.2
        have Hms : Hid (World.rangeLeft w4 mO q < World.rangeLeft wr mO q) := hid (by rw [hit4.left, Hit.out.left]; exact left_less he heT)
        have HI4 := hid hit4
        have HP4 := hid hpn4
        have HPr4 := hid hpr4
        have HE := hid (And.intro he heT)
        obtain ⟨ek, hek⟩ : ∃ ek, e.k = ek := ⟨_, rfl⟩
        obtain ⟨ev, hev⟩ : ∃ ev, e.v = ev := ⟨_, rfl⟩
        rw [hek, hev] at hen4
        rw [hek] at HI4
        rw [hek, hev]
        have Hek := hid hek
        have HDt : Hid (∀ a, fup D ek true a = true ↔ (∃ e' ∈ E, e'.k = a) ∧ a ∉ T.filter fun k => decide (k ≠ ek)) := hid (fun a => by
          by_cases ha : a = ek
          · subst ha
            rw [fup_self]
            exact ⟨fun _ => ⟨⟨e, HE.out.1, Hek.out⟩, by simp⟩, fun _ => (by first | rfl | trivial)⟩
          · rw [fup_ne _ _ ha, HS.out.dt a]
            constructor
            · rintro ⟨h1, h2⟩
              exact ⟨h1, fun h3 => h2 (List.mem_filter.1 h3).1⟩
            · rintro ⟨h1, h2⟩
              exact ⟨h1, fun h3 => h2 (List.mem_filter.2 ⟨h3, decide_eq_true ha⟩)⟩)
        have Hr0 := hid (And.intro HS.out.r0 HS.out.rw)
        clear he heT hpn4 hit4 hu4 hsz4 hpr4 hek hev HS Hpn Hit
        go_frame
        by_cases hre : Rr G ek
        · as_aux_lemma =>
          obtain ⟨x, hx, hxk⟩ := (HRv.out.2 ek).2 hre
          have hlk := HPr4.out.look (P := Tryd.prog) Tryd.underlying83 und_addr hx
          rw [hxk, HRv.out.1 x hx] at hlk
          have HS4 : Hid (SfS w ρ L G r q E R (fup D ek true) (T.filter fun k => decide (k ≠ ek)) w4) := hid ⟨by rw [condD_reach hre]; exact HM4.out, HF4.out, by rw [HmO.out]; exact HP4.out, by rw [HmO.out]; exact HI4.out, HPr4.out, Hr0.out.1, Hr0.out.2, HDt.out⟩
          clear hx hxk HM4 HF4 HP4 HI4 HDt
          go_wp2
          exact ⟨⟨_, _, HS4⟩, Hms.out⟩
        · as_aux_lemma =>
          have hnx : ∀ x ∈ R, x.k ≠ ek := fun x hx hxk => hre ((HRv.out.2 ek).1 ⟨x, hx, hxk⟩)
          have hlk := HPr4.out.lookZ (P := Tryd.prog) Tryd.underlying83 und_addr hnx zero_bool
          have c10 : w4.cell? ⟨hB, 10, none⟩ = some (.map (some mC)) := by rw [← HhB.out, ← HmC.out]; exact HM4.out.cells.2.2
          obtain ⟨F, q1, q2, q3⟩ := HM4.out.mc
          have hput : ∃ w5 F5, (Instr.mapUpdate 83 (.map (some mC)) (.int .u64 (ek : Int)) (.bool true)).run Tryd.prog w4 = .ok () w5 ∧ PN w5 L.mC F5 ∧ Upd L.mC w4 w5 ∧ (∀ e ∈ F5, e.v = .bool true) ∧ ∀ a, (∃ e ∈ F5, e.k = a) ↔ ((∃ e ∈ F, e.k = a) ∨ a = ek) := by
            by_cases hin : ∃ y ∈ F, y.k = ek
            · obtain ⟨y, hy, hyk⟩ := hin
              obtain ⟨w5, g1, g2, g3⟩ := q1.putSame (P := Tryd.prog) Tryd.underlying83 und_addr hy
              rw [hyk, q2 y hy, HmC.out] at g1
              exact ⟨w5, F, g1, g2, g3, q2, fun a => ⟨fun h => .inl h, fun h => by rcases h with h | h; exact h; exact ⟨y, hy, by rw [h]; exact hyk⟩⟩⟩
            · obtain ⟨w5, b5, g1, g2, g3⟩ := q1.put (P := Tryd.prog) Tryd.underlying83 und_addr ek (.bool true) (fun y hy hyk => hin ⟨y, hy, hyk⟩)
              rw [HmC.out] at g1
              refine ⟨w5, _, g1, g2, g3, fun y hy => ?_, fun a => ?_⟩
              · rcases List.mem_append.1 hy with h | h
                · exact q2 y h
                · simp at h; subst h; rfl
              · constructor
                · rintro ⟨y, hy, rfl⟩
                  rcases List.mem_append.1 hy with h | h
                  · exact .inl ⟨y, h, rfl⟩
                  · simp at h; subst h; exact .inr rfl
                · rintro (⟨y, hy, hyk⟩ | rfl)
                  · exact ⟨y, List.mem_append.2 (.inl hy), hyk⟩
                  · exact ⟨⟨a, .bool true, b5⟩, by simp, rfl⟩
          obtain ⟨w5, F5, hrun, hp5, hu5, hv5, hk5⟩ := hput
          have HS5 : Hid (SfS w ρ L G r q E R (fup D ek true) (T.filter fun k => decide (k ≠ ek)) w5) := hid ⟨by
              rw [condD_cut hre]
              refine HM4.out.setC hu5 hp5 hv5 (fun a => ?_) ⟨rfl, rfl, rfl, rfl⟩
              show _ ↔ fup (condD G D) ek true a = true
              rw [hk5 a]
              have h3 := q3 a
              by_cases ha : a = ek
              · subst ha; rw [fup_self]; exact ⟨fun _ => (by first | rfl | trivial), fun _ => .inr rfl⟩
              · rw [fup_ne _ _ ha]
                constructor
                · rintro (h | h)
                  · exact h3.1 h
                  · exact absurd h ha
                · intro h; exact .inl (h3.2 h),
            HF4.out.trans (Fr.upd hu5 (by rw [HM4.out.r4]; omega)), by rw [HmO.out]; exact HP4.out.upd hu5 (fun e => by have := HM4.out.r3; rw [HmO.out, e, HM4.out.r4] at this; omega), by
              rw [HmO.out]
              exact HI4.out.of (hu5.block q (HI4.out.lt) (fun e => by have := Hr0.out.1.2; rw [e, HM4.out.r4] at this; omega)) (hu5.block mO HP4.out.lt (fun e => by have := HM4.out.r3; rw [HmO.out, e, HM4.out.r4] at this; omega)),
            HPr4.out.upd hu5 (fun e => by have := Hr0.out.1.1; rw [e, HM4.out.r4] at this; omega), Hr0.out.1, Hr0.out.2, HDt.out⟩
          have Hms5 : Hid (World.rangeLeft w5 mO q < World.rangeLeft wr mO q) := hid (by
            have h5 : IT w5 q mO E (T.filter fun k => decide (k ≠ ek)) := by rw [← HmO.out]; exact HS5.out.it
            rw [h5.left, ← HI4.out.left]
            exact Hms.out)
          clear q1 q2 q3 hp5 hu5 hv5 hk5 HM4 HF4 HP4 HI4 HDt Hms hnx
          go_wp2
          exact ⟨⟨_, _, HS5⟩, Hms5.out⟩
end
end Go.Proofs.Qxb6500889aDoor
