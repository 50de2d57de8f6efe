/- The heap: the walk of Reachable. -/
import Derived.Test.Qxb6500889aDoorMuH7
namespace Go.Proofs.Qxb6500889aDoor
open Go.RowKit
set_option linter.unusedSimpArgs false
set_option linter.unusedVariables false

section
variable {w w' : World} {ρ ρ' : Rl} {L : HL} {H : HS}
theorem idx_r0 (x0 x1 x2 x3 : Value) (w : World) : (Instr.index 81 (.agg #[x0, x1, x2, x3]) (.int .i64 0)).run Tryd.prog w = .ok x0 w := by kernel_rfl
theorem idx_b0 (x0 x1 x2 x3 : Value) (w : World) : (Instr.index 82 (.agg #[x0, x1, x2, x3]) (.int .i64 0)).run Tryd.prog w = .ok x0 w := by kernel_rfl
theorem idx_r1 (x0 x1 x2 x3 : Value) (w : World) : (Instr.index 81 (.agg #[x0, x1, x2, x3]) (.int .i64 1)).run Tryd.prog w = .ok x1 w := by kernel_rfl
theorem idx_b1 (x0 x1 x2 x3 : Value) (w : World) : (Instr.index 82 (.agg #[x0, x1, x2, x3]) (.int .i64 1)).run Tryd.prog w = .ok x1 w := by kernel_rfl
theorem idx_r2 (x0 x1 x2 x3 : Value) (w : World) : (Instr.index 81 (.agg #[x0, x1, x2, x3]) (.int .i64 2)).run Tryd.prog w = .ok x2 w := by kernel_rfl
theorem idx_b2 (x0 x1 x2 x3 : Value) (w : World) : (Instr.index 82 (.agg #[x0, x1, x2, x3]) (.int .i64 2)).run Tryd.prog w = .ok x2 w := by kernel_rfl
theorem idx_r3 (x0 x1 x2 x3 : Value) (w : World) : (Instr.index 81 (.agg #[x0, x1, x2, x3]) (.int .i64 3)).run Tryd.prog w = .ok x3 w := by kernel_rfl
theorem idx_b3 (x0 x1 x2 x3 : Value) (w : World) : (Instr.index 82 (.agg #[x0, x1, x2, x3]) (.int .i64 3)).run Tryd.prog w = .ok x3 w := by kernel_rfl
theorem zero_bool (w : World) : (zeroValue 4).run Tryd.prog w = .ok (.bool false) w := by kernel_rfl
theorem Wf.lt (h : Wf H) {a : Nat} {x : Ob} (hx : H.objs a = some x) : 65536 ≤ a ∧ a < 98304 := by
  obtain ⟨s, h1, h2⟩ := h.rng a x hx
  have := obW_pos x
  omega
theorem PN.bound {r : Nat} {E : List Ent} (h : PN w r E) (hb : ∀ e ∈ E, e.k < 98304) : E.length ≤ 98304 := by
  have := nodup_bound 98304 (E.map (·.k)) h.nek (fun x hx => by
    obtain ⟨e, he, rfl⟩ := List.mem_map.1 hx
    exact hb e he)
  simpa using this
set_option maxRecDepth 1000000 in
set_option maxHeartbeats 4000000 in
theorem reach_walk (h : HM w ρ L H) (hwf : Wf H) (hrl : ∀ m, m < 4 → (H.roots m).length ≤ 64) (hcl : ∀ a, Rr H a → ∃ x, H.objs a = some x) :
    Calls Tryd.prog 82 #[.pointer (some ⟨L.hB, 0, none⟩)] w fun e w' => e = .returned (.map (some w.heap.size)) ∧ Below w.heap.size w w' ∧ ∃ E, PN w' w.heap.size E ∧ (∀ e ∈ E, e.v = .bool true) ∧ ∀ a, (∃ e ∈ E, e.k = a) ↔ Rr H a := by
  have HH := hid h
  have HW := hid hwf
  have HR := hid hrl
  have HCl := hid hcl
  obtain ⟨hB, hhB⟩ : ∃ b, L.hB = b := ⟨_, rfl⟩
  obtain ⟨mO, hmO⟩ : ∃ b, L.mO = b := ⟨_, rfl⟩
  have HhB := hid hhB
  have HmO := hid hmO
  rw [hhB]
  obtain ⟨r, hr⟩ : ∃ r, w.heap.size = r := ⟨_, rfl⟩
  have Hr := hid hr
  rw [hr]
  obtain ⟨a0, k0, v0⟩ := (h.rt 0 (by omega)).shape
  obtain ⟨a1, k1, v1⟩ := (h.rt 1 (by omega)).shape
  obtain ⟨a2, k2, v2⟩ := (h.rt 2 (by omega)).shape
  obtain ⟨a3, k3, v3⟩ := (h.rt 3 (by omega)).shape
  have HV := hid (And.intro v0 (And.intro v1 (And.intro v2 v3)))
  obtain ⟨n0, hn0⟩ : ∃ n, (H.roots 0).length = n := ⟨_, rfl⟩
  obtain ⟨n1, hn1⟩ : ∃ n, (H.roots 1).length = n := ⟨_, rfl⟩
  obtain ⟨n2, hn2⟩ : ∃ n, (H.roots 2).length = n := ⟨_, rfl⟩
  obtain ⟨n3, hn3⟩ : ∃ n, (H.roots 3).length = n := ⟨_, rfl⟩
  have HN := hid (And.intro hn0 (And.intro hn1 (And.intro hn2 hn3)))
  have HH1 := hid (h.below (nbel w (.map #[] 0)))
  have c2 : (w.alloc (.map #[] 0)).cell? ⟨hB, 2, none⟩ = some (.slice a0 n0 k0) := by have := HH1.out.rcell (m := 0) (by omega); rw [v0, hn0, hhB] at this; exact this
  have c3 : (w.alloc (.map #[] 0)).cell? ⟨hB, 3, none⟩ = some (.slice a1 n1 k1) := by have := HH1.out.rcell (m := 1) (by omega); rw [v1, hn1, hhB] at this; exact this
  have c4 : (w.alloc (.map #[] 0)).cell? ⟨hB, 4, none⟩ = some (.slice a2 n2 k2) := by have := HH1.out.rcell (m := 2) (by omega); rw [v2, hn2, hhB] at this; exact this
  have c5 : (w.alloc (.map #[] 0)).cell? ⟨hB, 5, none⟩ = some (.slice a3 n3 k3) := by have := HH1.out.rcell (m := 3) (by omega); rw [v3, hn3, hhB] at this; exact this
  have HS0 : Hid (RcS w r (.slice none 0 0) [] [] (w.alloc (.map #[] 0))) := hid ⟨nbel w _, PN.new w hr, fun e he => (by cases he), World.ownsRow_nil _ _ _ _, hr⟩
  have hmm := @run_makeMap Tryd.prog
  clear h hwf hrl hcl hhB hmO hr v0 v1 v2 v3 hn0 hn1 hn2 hn3 HH1
  go_enter Tryd.func82, Tryd.ntmps82
  go_wp2_with fail
  have hr := Hr.out
  simp only [hr]
  clear hr
  generalize w.alloc (.map #[] 0) = w1 at c2 c3 c4 c5 HS0 ⊢
  clear c2 c3 c4 c5 hmm
  go_loopw [4, 13] (fun v i wr => ∃ k : Nat, k ≤ 4 ∧ i = .int .i64 (k : Int) ∧ Hid (RcS w r v (catR H k) [] wr)) (fun _ i _ => 4 - (intOf i).toNat)
  case atStart => exact ⟨0, by omega, rfl, HS0⟩
  case round =>
    clear HS0
    obtain ⟨k, hk, rfl, HS⟩ := hrel
    obtain ⟨i0, hii, hz0, hz1, hz2⟩ := info_addr
    have HI := hid (And.intro hii (And.intro hz0 (And.intro hz1 hz2)))
    clear hii hz0 hz1 hz2
    by_cases hlt : k < 4
    · as_aux_lemma =>
      have hcl := catR_len H HR.out k hk
      have hrk := HR.out k hlt
      have hsz : r + 1 ≤ wr.heap.size := by have := HS.out.pn.lt; omega
      have HNx : Hid (∀ v8 w8, w8.ownsRow (r + 1) 50 1 v8 ((catR H k).length + (H.roots k).length) (aC (catR H k) ++ aC (H.roots k)) → Below (r + 1) wr w8 → RcS w r v8 (catR H (k + 1)) [] w8) := hid (fun v8 w8 ho hb => by
        have hs := HS.out.wr'
        refine ⟨HS.out.bel.trans (hb.mono (by omega)), HS.out.pn.of (hb.block r (by omega)), HS.out.vt, ?_, hs⟩
        rw [catR, List.length_append]
        have e : aC (catR H k ++ H.roots k) = aC (catR H k) ++ aC (H.roots k) := by simp [aC]
        rw [e]
        exact ho)
      have HRt := hid ((HH.out.below HS.out.bel).rt k hlt)
      have HOw := hid HS.out.own
      rcases (by omega : k = 0 ∨ k = 1 ∨ k = 2 ∨ k = 3) with rfl | rfl | rfl | rfl
      · have hsr := HRt.out
        rw [HV.out.1, HN.out.1] at hsr
        obtain ⟨g1, g2, g3⟩ := hsr.src
        have HSr := hid (And.intro g1 g2)
        have hix := fun w => idx_r0 (.slice a0 n0 k0) (.slice a1 n1 k1) (.slice a2 n2 k2) (.slice a3 n3 k3) w
        have hbb : ((catR H 0).length + n0) * 8 ≤ 140737488355328 := by rw [← HN.out.1]; omega
        have hgl : (aC (H.roots 0)).length = n0 * 1 := by rw [aC_len, g3]; omega
        have Hg3 := hid g3
        clear hsr g1 g2 g3
        go_wp2_with (at_builtin; refine wpList_append_row _ rfl (.tmp 16) (.tmp 17) 80 rfl (r + 1) 50 i0 (.int .u64 0) 1 8 Tryd.underlying80 HI.out.1 HI.out.2.1 HI.out.2.2.1 HI.out.2.2.2 rfl (by decide) _ _ _ rfl HOw.out a0 n0 k0 (aC (H.roots 0)) rfl hgl HSr.out.2 HSr.out.1 (aC_one _) hbb (by decide) hsz ?_; intro v8 w8 hown8 hb8 hk8 hg8; have HOw8 := hid hown8; have HB8 := hid hb8; clear hown8 hb8 hk8 hg8)
        exact ⟨⟨1, by omega, by go_num, hid (HNx.out _ _ (by rw [Hg3.out]; exact HOw8.out) HB8.out)⟩, by simp [intOf]⟩
      · have hsr := HRt.out
        rw [HV.out.2.1, HN.out.2.1] at hsr
        obtain ⟨g1, g2, g3⟩ := hsr.src
        have HSr := hid (And.intro g1 g2)
        have hix := fun w => idx_r1 (.slice a0 n0 k0) (.slice a1 n1 k1) (.slice a2 n2 k2) (.slice a3 n3 k3) w
        have hbb : ((catR H 1).length + n1) * 8 ≤ 140737488355328 := by rw [← HN.out.2.1]; omega
        have hgl : (aC (H.roots 1)).length = n1 * 1 := by rw [aC_len, g3]; omega
        have Hg3 := hid g3
        clear hsr g1 g2 g3
        go_wp2_with (at_builtin; refine wpList_append_row _ rfl (.tmp 16) (.tmp 17) 80 rfl (r + 1) 50 i0 (.int .u64 0) 1 8 Tryd.underlying80 HI.out.1 HI.out.2.1 HI.out.2.2.1 HI.out.2.2.2 rfl (by decide) _ _ _ rfl HOw.out a1 n1 k1 (aC (H.roots 1)) rfl hgl HSr.out.2 HSr.out.1 (aC_one _) hbb (by decide) hsz ?_; intro v8 w8 hown8 hb8 hk8 hg8; have HOw8 := hid hown8; have HB8 := hid hb8; clear hown8 hb8 hk8 hg8)
        exact ⟨⟨2, by omega, by go_num, hid (HNx.out _ _ (by rw [Hg3.out]; exact HOw8.out) HB8.out)⟩, by simp [intOf]⟩
      · have hsr := HRt.out
        rw [HV.out.2.2.1, HN.out.2.2.1] at hsr
        obtain ⟨g1, g2, g3⟩ := hsr.src
        have HSr := hid (And.intro g1 g2)
        have hix := fun w => idx_r2 (.slice a0 n0 k0) (.slice a1 n1 k1) (.slice a2 n2 k2) (.slice a3 n3 k3) w
        have hbb : ((catR H 2).length + n2) * 8 ≤ 140737488355328 := by rw [← HN.out.2.2.1]; omega
        have hgl : (aC (H.roots 2)).length = n2 * 1 := by rw [aC_len, g3]; omega
        have Hg3 := hid g3
        clear hsr g1 g2 g3
        go_wp2_with (at_builtin; refine wpList_append_row _ rfl (.tmp 16) (.tmp 17) 80 rfl (r + 1) 50 i0 (.int .u64 0) 1 8 Tryd.underlying80 HI.out.1 HI.out.2.1 HI.out.2.2.1 HI.out.2.2.2 rfl (by decide) _ _ _ rfl HOw.out a2 n2 k2 (aC (H.roots 2)) rfl hgl HSr.out.2 HSr.out.1 (aC_one _) hbb (by decide) hsz ?_; intro v8 w8 hown8 hb8 hk8 hg8; have HOw8 := hid hown8; have HB8 := hid hb8; clear hown8 hb8 hk8 hg8)
        exact ⟨⟨3, by omega, by go_num, hid (HNx.out _ _ (by rw [Hg3.out]; exact HOw8.out) HB8.out)⟩, by simp [intOf]⟩
      · have hsr := HRt.out
        rw [HV.out.2.2.2, HN.out.2.2.2] at hsr
        obtain ⟨g1, g2, g3⟩ := hsr.src
        have HSr := hid (And.intro g1 g2)
        have hix := fun w => idx_r3 (.slice a0 n0 k0) (.slice a1 n1 k1) (.slice a2 n2 k2) (.slice a3 n3 k3) w
        have hbb : ((catR H 3).length + n3) * 8 ≤ 140737488355328 := by rw [← HN.out.2.2.2]; omega
        have hgl : (aC (H.roots 3)).length = n3 * 1 := by rw [aC_len, g3]; omega
        have Hg3 := hid g3
        clear hsr g1 g2 g3
        go_wp2_with (at_builtin; refine wpList_append_row _ rfl (.tmp 16) (.tmp 17) 80 rfl (r + 1) 50 i0 (.int .u64 0) 1 8 Tryd.underlying80 HI.out.1 HI.out.2.1 HI.out.2.2.1 HI.out.2.2.2 rfl (by decide) _ _ _ rfl HOw.out a3 n3 k3 (aC (H.roots 3)) rfl hgl HSr.out.2 HSr.out.1 (aC_one _) hbb (by decide) hsz ?_; intro v8 w8 hown8 hb8 hk8 hg8; have HOw8 := hid hown8; have HB8 := hid hb8; clear hown8 hb8 hk8 hg8)
        exact ⟨⟨4, by omega, by go_num, hid (HNx.out _ _ (by rw [Hg3.out]; exact HOw8.out) HB8.out)⟩, by simp [intOf]⟩
    as_aux_lemma =>
    have hk4 : k = 4 := by omega
    subst hk4
    rw [show ((4 : Nat) : Int) = 4 from rfl]
    have hcl := catR_len H HR.out 4 (by omega)
    have HP0 : Hid (RcP H (catR H 4) []) := hid ⟨fun e he => (by cases he), fun a ha => by
      obtain ⟨m, h1, h2⟩ := (catR_mem H 4).1 ha
      by_cases h0 : a = 0
      · exact .inl h0
      · exact .inr (.root m a h1 h2 h0), fun m a hm ha => .inr (.inl ((catR_mem H 4).2 ⟨m, hm, ha⟩)), fun e he => (by cases he)⟩
    go_wp2_with fail
    go_loopw [4] (fun v wr => ∃ xs E, Hid (RcS w r v xs E wr) ∧ Hid (RcP H xs E) ∧ xs.length ≤ 256 + 8192 * E.length) (fun v wr => (98305 - mapN wr r) * 8200 + sliceN v)
    case atStart => exact ⟨catR H 4, [], HS, HP0, by simp; omega⟩
    case round =>
      clear HS HP0 hcl
      obtain ⟨xs, E, HS, HP, hxl⟩ := hrel
      have HXl := hid hxl
      clear hxl
      rcases List.eq_nil_or_concat xs with rfl | ⟨ys, x, rfl⟩
      · as_aux_lemma =>
        obtain ⟨a, k, hv⟩ := own_shape HS.out.own
        subst hv
        simp only [List.length_nil]
        have HF : Hid (Below w.heap.size w wr ∧ ∃ E, PN wr r E ∧ (∀ e ∈ E, e.v = .bool true) ∧ ∀ a, (∃ e ∈ E, e.k = a) ↔ Rr H a) := hid ⟨HS.out.bel, E, HS.out.pn, HS.out.vt, HP.out.done⟩
        clear HS HP
        go_wp2
        go_ret
        have hr := Hr.out
        exact ⟨rfl, by rw [← hr]; exact HF.out.1, by exact HF.out.2⟩
      rw [List.concat_eq_append] at HS HP HXl
      obtain ⟨g, k, hv, hk1, hk2, cx, hpop⟩ := own_pop HS.out.own
      subst hv
      have Hpop := hid hpop
      obtain ⟨n, hn⟩ : ∃ n, ys.length = n := ⟨_, rfl⟩
      rw [hn] at hk1 cx Hpop ⊢
      have Hn := hid hn
      have hE : E.length ≤ 98304 := HS.out.pn.bound (fun e he => by
        obtain ⟨o, ho⟩ := HCl.out _ (HP.out.sE e he)
        exact (HW.out.lt ho).2)
      have hnl : n ≤ 900000000 := by have := HXl.out; rw [List.length_append, List.length_singleton, hn] at this; omega
      have i1 : (n : Int) < (n : Int) + 1 := by omega
      have dn : decide ((0 : Int) < (n : Int) + 1) = true := decide_eq_true (by omega)
      have kb : (k : Int) ≤ 9223372036854775807 := by unfold maxLen at hk2; omega
      have kb2 : (n : Int) ≤ (k : Int) := by omega
      have Hms : Hid (mapN wr r = E.length) := hid HS.out.pn.mapN
      have HBe := hid HS.out.bel
      have Hpn := hid HS.out.pn
      have HE := hid hE
      clear hpop hn hk1 hk2 hE
      by_cases hx0 : x = 0 ∨ ∃ e ∈ E, e.k = x
      · as_aux_lemma =>
        have HS2 : Hid (RcS w r (.slice (some ⟨g, 0, none⟩) n k) ys E wr) := hid ⟨HS.out.bel, HS.out.pn, HS.out.vt, by rw [Hn.out]; exact Hpop.out, HS.out.wr'⟩
        have HP2 := hid (HP.out.drop hx0)
        have hvt := HS.out.vt
        by_cases h0 : x = 0
        · subst h0
          clear HS HP Hpop hvt hx0
          go_wp2
          exact ⟨⟨ys, E, HS2, HP2, by have := HXl.out; rw [List.length_append] at this; omega⟩, by simp [sliceN]⟩
        · obtain ⟨e, he, hek⟩ : ∃ e ∈ E, e.k = x := by
            rcases hx0 with h | h
            · exact absurd h h0
            · exact h
          have hlk := Hpn.out.look (P := Tryd.prog) Tryd.underlying83 und_addr he
          rw [hek, hvt e he] at hlk
          have d0 : ((x : Int) == 0) = false := by simp; omega
          clear HS HP Hpop hvt hx0 he hek
          go_wp2
          exact ⟨⟨ys, E, HS2, HP2, by have := HXl.out; rw [List.length_append] at this; omega⟩, by simp [sliceN]⟩
      · as_aux_lemma =>
        have h0 : x ≠ 0 := fun e => hx0 (.inl e)
        have hne : ∀ e ∈ E, e.k ≠ x := fun e he hek => hx0 (.inr ⟨e, he, hek⟩)
        have hrx : Rr H x := by
          rcases HP.out.sX x (by simp) with h | h
          · exact absurd h h0
          · exact h
        obtain ⟨o, ho⟩ := HCl.out x hrx
        have hlk := Hpn.out.lookZ (P := Tryd.prog) Tryd.underlying83 und_addr hne zero_bool
        obtain ⟨w2, b2, hput, hpn2, hu2⟩ := Hpn.out.put (P := Tryd.prog) Tryd.underlying83 und_addr x (.bool true) hne
        have hrw := HS.out.wr'
        have hbe2 : Below w.heap.size w w2 := HBe.out.trans (hu2.below (by omega) HBe.out.size)
        have HM2 := hid (HH.out.below hbe2)
        have c0 : w2.cell? ⟨hB, 0, none⟩ = some (.map (some mO)) := by rw [← HhB.out, ← HmO.out]; exact HM2.out.cells.1
        have hlo := HM2.out.look ho
        rw [HmO.out] at hlo
        have hobj := HM2.out.o x o ho
        have hsz := hobj.sz
        obtain ⟨rn, hrn⟩ : ∃ rn, o.refs.length = rn := ⟨_, rfl⟩
        have o0 : w2.cell? ⟨L.ob x, 0, none⟩ = some (.slice (some ⟨L.rb x, 0, none⟩) rn rn) := by rw [← hrn]; exact hobj.o.cell 0
        have HRf := hid hobj.r
        have hrn2 : rn ≤ 8192 := by omega
        generalize L.ob x = oB at hlo o0
        obtain ⟨rB, hrB⟩ : ∃ b, L.rb x = b := ⟨_, rfl⟩
        rw [hrB] at o0 HRf
        have hown2 := own_upd Hpop.out hu2 (by omega)
        have HOw := hid hown2
        have HP2 := hid (HP.out.take (v := .bool true) (b := b2) h0 ho)
        have HPn2 := hid hpn2
        have HBe2 := hid hbe2
        have hvt := HS.out.vt
        have HVt := hid hvt
        have hsz2 : r + 1 ≤ w2.heap.size := by have := hpn2.lt; omega
        have hgl : (aC o.refs).length = rn * 1 := by rw [aC_len, hrn]; omega
        have hbb : (n + rn) * 8 ≤ 140737488355328 := by omega
        have d0 : ((x : Int) == 0) = false := by simp; omega
        have HSr : Hid (∀ ad, some (⟨rB, 0, none⟩ : Addr) = some ad → ∀ j u, (aC o.refs)[j]? = some u → w2.cell? (ad.add j) = some u) := hid (fun ad had j u hu => by
          cases had
          have e : (⟨rB, 0, none⟩ : Addr).add j = ⟨rB, j, none⟩ := by unfold Addr.add; split <;> simp_all
          rw [e, HRf.out.cell]
          exact hu)
        have Hrn := hid hrn
        have Hrw := hid hrw
        have HNE := hid hne
        clear HS HP Hpop hvt hx0 hne hrx ho hpn2 hu2 hbe2 HM2 hobj hown2 HRf hrB hrn hrw
        go_wp2_with (at_builtin; refine wpList_append_row _ rfl (.tmp 43) (.tmp 52) 80 rfl (r + 1) 50 i0 (.int .u64 0) 1 8 Tryd.underlying80 HI.out.1 HI.out.2.1 HI.out.2.2.1 HI.out.2.2.2 rfl (by decide) _ _ _ rfl HOw.out (some ⟨rB, 0, none⟩) rn rn (aC o.refs) rfl hgl (fun h => by cases h) HSr.out (aC_one _) hbb (by decide) hsz2 ?_; intro v8 w8 hown8 hb8 hk8 hg8; have HOw8 := hid hown8; have HB8 := hid hb8; clear hown8 hb8 hk8 hg8)
        have hlen : (ys ++ o.refs).length = n + rn := by rw [List.length_append, Hn.out, Hrn.out]
        have hS8 : RcS w r v8 (ys ++ o.refs) (E ++ [⟨x, .bool true, b2⟩]) w8 := by
          have hw := Hrw.out
          refine ⟨HBe2.out.trans (HB8.out.mono (by omega)), HPn2.out.of (HB8.out.block r (by omega)), fun e he => ?_, ?_, hw⟩
          · rcases List.mem_append.1 he with h | h
            · exact HVt.out e h
            · simp at h; subst h; rfl
          · rw [hlen]
            have e : aC (ys ++ o.refs) = aC ys ++ aC o.refs := by simp [aC]
            rw [e]
            exact HOw8.out
        have hv8 : sliceN v8 = n + rn := by
          obtain ⟨a, k', h⟩ := own_shape hS8.own
          rw [h, hlen]
          rfl
        have hm8 : mapN w8 r = E.length + 1 := by rw [hS8.pn.mapN]; simp
        refine ⟨⟨_, _, hid hS8, HP2, ?_⟩, ?_⟩
        · rw [hlen, List.length_append, List.length_singleton]
          have := HXl.out
          rw [List.length_append, List.length_singleton, Hn.out] at this
          omega
        · rw [hm8, Hms.out, hv8]
          have := HE.out
          show (98305 - (E.length + 1)) * 8200 + (n + rn) < (98305 - E.length) * 8200 + (n + 1)
          omega
end
end Go.Proofs.Qxb6500889aDoor
