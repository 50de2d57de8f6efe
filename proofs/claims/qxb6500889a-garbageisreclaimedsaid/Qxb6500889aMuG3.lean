/- The law GarbageIsReclaimed. -/
import Derived.Test.Qxb6500889aMuGx
namespace Go.Proofs.Qxb6500889a
open Go.RowKit
set_option linter.unusedSimpArgs false
set_option linter.unusedVariables false
theorem wrap_u64 (a r : Nat) : ∃ s : Nat, IntKind.u64.wrap ((a : Int) + (r : Int)) = (s : Int) ∧ s < 18446744073709551616 := by
  refine ⟨(a + r) % 18446744073709551616, ?_, by omega⟩
  unfold IntKind.wrap
  simp [IntKind.signed, IntKind.bits]
/-- The law's variables: two cells that hold the world and the model. -/
abbrev VX (wP mP wB mB : Nat) : List XBk := [(mP, 26, [.pointer (some ⟨mB, 0, none⟩)]), (wP, 24, [.pointer (some ⟨wB, 0, none⟩)])]
structure Q1 (w0 : World) (wB mB wP mP k : Nat) (P : WSt → MS → (Nat → Nat) → Prop) (wr : World) : Prop where
  ex : ∃ S M φ, WP w0 wB mB S M (VX wP mP wB mB) wr ∧ Rel S M φ ∧ TkI S.H ∧ S.k = k ∧ P S M φ
section
variable {w0 wr w' : World} {wB mB wP mP k : Nat} {S S' : WSt} {M M' : MS} {φ : Nat → Nat} {P P' : WSt → MS → (Nat → Nat) → Prop}
theorem WP.vars (h : WP w0 wB mB S M [] wr) : WP w0 wB mB S M (VX wr.heap.size (wr.heap.size + 1) wB mB) ((wr.alloc (.cells #[.pointer (some ⟨wB, 0, none⟩)] 24)).alloc (.cells #[.pointer (some ⟨mB, 0, none⟩)] 26)) := by
  have h2 := (h.alloc [.pointer (some ⟨wB, 0, none⟩)] 24).alloc [.pointer (some ⟨mB, 0, none⟩)] 26
  have hs : (wr.alloc (.cells [Value.pointer (some ⟨wB, 0, none⟩)].toArray 24)).heap.size = wr.heap.size + 1 := by simp
  rw [hs] at h2
  exact h2
theorem Q1.play {o : OpP} (h : Q1 w0 wB mB wP mP k P wr) (hk : k < 100000000000) (hob : OpB o) (hP : ∀ S M φ z S' M' φ', P S M φ → HI S.H S.X → Pld S o z S' → Rel S' M' φ' → P' S' M' φ') :
    Calls Try.prog 20 #[.agg (opC o).toArray, .pointer (some ⟨mP, 0, none⟩), .pointer (some ⟨wP, 0, none⟩)] wr fun e w' => e = .returned (.tuple #[]) ∧ Q1 w0 wB mB wP mP (k + 1) P' w' := by
  obtain ⟨S, M, φ, h1, h2, h3, h4, h5⟩ := h.ex
  refine (gplay_walk h1 h2 (by omega) (by simp [VX]) (by simp [VX]) o hob).mono ?_
  rintro e w' ⟨rfl, z, S', M', φ', k1, k2, k3⟩
  obtain ⟨X', hd, hx⟩ := k1.ds
  exact ⟨rfl, S', M', φ', k3, k2, h3.step h1.lw.hi hd, by rw [k1.k, h4], hP S M φ z S' M' φ' h5 h1.lw.hi k1 k2⟩
theorem Q1.vars (h : Q1 w0 wB mB wP mP k P wr) : Blk wr mP 26 [.pointer (some ⟨mB, 0, none⟩)] ∧ Blk wr wP 24 [.pointer (some ⟨wB, 0, none⟩)] := by
  obtain ⟨S, M, φ, h1, _⟩ := h.ex
  exact ⟨(h1.bl _ List.mem_cons_self).1, (h1.bl _ (List.mem_cons_of_mem _ List.mem_cons_self)).1⟩
theorem Q1.below (h : Q1 w0 wB mB wP mP k P wr) (hb : Below wr.heap.size wr w') : Q1 w0 wB mB wP mP k P w' := by
  obtain ⟨S, M, φ, h1, h2⟩ := h.ex
  exact ⟨S, M, φ, h1.below hb, h2⟩
theorem Q1.bel (h : Q1 w0 wB mB wP mP k P wr) : Below w0.heap.size w0 wr := by
  obtain ⟨S, M, φ, h1, h2⟩ := h.ex
  exact h1.lw.bel
theorem Q1.imp (h : Q1 w0 wB mB wP mP k P wr) (hP : ∀ S M φ, P S M φ → P' S M φ) : Q1 w0 wB mB wP mP k P' wr := by
  obtain ⟨S, M, φ, h1, h2, h3, h4, h5⟩ := h.ex
  exact ⟨S, M, φ, h1, h2, h3, h4, hP S M φ h5⟩
end
set_option maxRecDepth 1000000 in
set_option maxHeartbeats 8000000 in
theorem garbage_walk (a : Option Addr) (n c : Nat) (l : List OpP) (w : World) (hs : Script w a n c l) :
    Calls Try.prog 8 #[.slice a n c] w fun e w' => e = .returned (.bool true) ∧ Below w.heap.size w w' := by
  have HSm := hid (fun w => small_walk a n c w)
  have HS := hid hs
  have HNw := hid (fun w => newWorld_walk w)
  clear hs
  by_cases hsm : n ≤ 65536
  rotate_left
  · as_aux_lemma =>
    rw [decide_eq_false hsm] at HSm
    go_enter Try.func8, Try.ntmps8
    go_wp2_with (go_at_call 9; refine (HSm.out _).mono ?_; rintro e w' ⟨rfl, rfl⟩)
    go_ret
    exact ⟨rfl, Below.refl _ _⟩
  rw [decide_eq_true hsm] at HSm
  go_enter Try.func8, Try.ntmps8
  go_wp2_with (go_at_call 9; refine (HSm.out _).mono ?_; rintro e w' ⟨rfl, rfl⟩)
  refine (HNw.out _).mono ?_
  rintro e w1 ⟨ρ1, L1, T1, V1, rfl, hW1, hl1, hb1⟩
  obtain ⟨mB, hmB⟩ : ∃ b, w1.heap.size = b := ⟨_, rfl⟩
  have HMn := hid (mnew_walk w1 hmB)
  have HWs : Hid (∀ w2, MN w2 (fup (fun _ => 0) mB 1) (N0 mB) M0 → Below w1.heap.size w1 w2 → ∃ S, WP w' V1.wB mB S M0 [] w2 ∧ Rel S M0 id ∧ TkI S.H ∧ S.k = 0) := hid (fun w2 h2 b2 => ⟨_, WP.start hW1 hl1 hb1 hmB h2 b2, Rel.zero, TkI.zero, rfl⟩)
  generalize V1.wB = wB at HWs ⊢
  clear hW1 hl1 hb1 HNw HSm hmB
  go_wp2_with fail
  refine HMn.out.mono ?_
  rintro e w2 ⟨rfl, h2, b2⟩
  obtain ⟨S0, hS0, hR0, hT0, hk0⟩ := HWs.out w2 h2 b2
  have v1 := hS0.vars
  obtain ⟨w3, hw3⟩ : ∃ w3, (w2.alloc (.cells #[.pointer (some ⟨wB, 0, none⟩)] 24)).alloc (.cells #[.pointer (some ⟨mB, 0, none⟩)] 26) = w3 := ⟨_, rfl⟩
  rw [hw3] at v1
  have HQ0 : Hid (Q1 w' wB mB w2.heap.size (w2.heap.size + 1) 0 (fun _ _ _ => True) w3) := hid ⟨S0, M0, id, v1, hR0, hT0, hk0, trivial⟩
  clear HMn HWs h2 b2 v1 hS0 hR0 hT0 hk0
  go_upto_region 5 with fail
  (try simp only [hw3])
  generalize w2.heap.size + 1 = mP at *
  generalize w2.heap.size = wP at *
  clear hw3
  have I1 : Hid ((Try.prog.info? 31).map (·.size) = some 5) := hid info_op
  go_wp2_with fail
  go_loopw [29] (fun v wr => ∃ i : Nat, i ≤ n ∧ v = .int .i64 (i : Int) ∧ Hid (Q1 w' wB mB wP mP i (fun _ _ _ => True) wr)) (fun v _ => n - (intOf v).toNat)
  case atStart => exact ⟨0, by omega, rfl, HQ0⟩
  case round =>
  clear HQ0
  obtain ⟨i, hi, rfl, HQ⟩ := hrel
  by_cases hin : i < n
  · as_aux_lemma =>
    have di : decide ((i : Int) < (n : Int)) = true := decide_eq_true (by omega)
    have hii : (i : Int) < (n : Int) := by omega
    obtain ⟨o, ho, hok, b, off, rfl, hb, c0, c1, c2, c3, c4⟩ := (HS.out.below HQ.out.bel).at hin
    have HOk := hid hok
    clear ho hok
    obtain ⟨ob, hob⟩ : ∃ p, wr.heap.size = p := ⟨_, rfl⟩
    go_upto_region 8 with fail
    obtain ⟨w4, hw4⟩ : ∃ w2, wr.alloc (.cells #[.int .u8 (o.ac : Int), .int .u8 (o.k : Int), .int .u64 (o.a : Int), .int .u64 (o.b : Int), .int .u64 (o.c : Int)] 31) = w2 := ⟨_, rfl⟩
    have HQ4 : Hid (Q1 w' wB mB wP mP i (fun _ _ _ => True) w4) := hid (by rw [← hw4]; exact HQ.out.below (nbel _ _))
    have HBo : Hid (Blk w4 ob 31 (opC o)) := hid (by
      have := Blk.new wr (opC o) 31
      rw [hob] at this
      rw [← hw4]
      exact this)
    simp only [hw4]
    clear hw4 hob c0 c1 c2 c3 c4 HQ
    go_wp2_with (refine wpList_load_blk rfl 31 _ rfl ob rfl (opC o) HBo.out _ Try.underlying31 rfl I1.out ?_)
    refine (HQ4.out.play (by omega) HOk.out (P' := fun _ _ _ => True) (fun _ _ _ _ _ _ _ _ _ _ _ => trivial)).mono ?_
    rintro e w5 ⟨rfl, hQ5⟩
    have HQ5 := hid hQ5
    clear hQ5 HQ4 HBo
    go_wp2
    exact ⟨⟨i + 1, by omega, by go_num, HQ5⟩, by simp [intOf]; omega⟩
  obtain rfl : i = n := by omega
  as_aux_lemma =>
  have di : decide ((i : Int) < (i : Int)) = false := decide_eq_false (by omega)
  go_wp2_with fail
  have HQs : Hid (Q1 w' wB mB wP mP (i + 0) (fun S _ _ => Sfd 0 S.H S.X ∧ (0 = 4 → Cl S.H S.X)) wr) := hid (HQ.out.imp (fun _ _ _ _ => ⟨Sfd.zero, fun h => by cases h⟩))
  clear HQ di
  go_loopw [8] (fun v wr => ∃ j : Nat, j ≤ 4 ∧ v = .int .i64 (j : Int) ∧ Hid (Q1 w' wB mB wP mP (i + j) (fun S _ _ => Sfd j S.H S.X ∧ (j = 4 → Cl S.H S.X)) wr)) (fun v _ => 4 - (intOf v).toNat)
  case atStart => exact ⟨0, by omega, rfl, HQs⟩
  case round =>
  clear HQs
  obtain ⟨j, hj, rfl, HQ⟩ := hrel
  by_cases hj4 : j < 4
  · as_aux_lemma =>
    have dj : decide ((j : Int) < 4) = true := decide_eq_true (by omega)
    have jb : (j : Int) < 4 := by omega
    have HCl : Hid (Calls Try.prog 20 #[.agg #[.int .u8 (j : Int), .int .u8 7, .int .u64 0, .int .u64 0, .int .u64 0], .pointer (some ⟨mP, 0, none⟩), .pointer (some ⟨wP, 0, none⟩)] wr fun e w'' => e = .returned (.tuple #[]) ∧ Q1 w' wB mB wP mP (i + j + 1) (fun S _ _ => Sfd (j + 1) S.H S.X ∧ (j + 1 = 4 → Cl S.H S.X)) w'') := hid (HQ.out.play (o := ⟨j, 7, 0, 0, 0⟩) (by omega) ⟨by show j < 256; omega, by show 7 < 256; omega, by show 0 < 18446744073709551616; omega, by show 0 < 18446744073709551616; omega, by show 0 < 18446744073709551616; omega⟩ (fun S M φ z S' M' φ' h1 h2 h3 h4 => by
      obtain ⟨X', hd, hx⟩ := h3.ds
      obtain ⟨k1, k2⟩ := h1.1.step hj4 hd
      rw [hx]
      exact ⟨k1, fun e => k2 (by omega)⟩))
    go_wp2_with fail
    refine HCl.out.mono ?_
    rintro e w5 ⟨rfl, hQ5⟩
    have HQ5 := hid hQ5
    clear hQ5 HCl HQ
    go_wp2
    exact ⟨⟨j + 1, by omega, by go_num, HQ5⟩, by simp [intOf]; omega⟩
  obtain rfl : j = 4 := by omega
  as_aux_lemma =>
  rw [show ((4 : Nat) : Int) = 4 from rfl]
  have dj : decide ((4 : Int) < 4) = false := rfl
  obtain ⟨S, M, φ, hWP, hRel, hTk, hSk, hSf⟩ := HQ.out.ex
  have HQc : Hid (Q1 w' wB mB wP mP (i + 4) (fun S _ _ => Cl S.H S.X) wr) := hid (HQ.out.imp (fun _ _ _ h => h.2 rfl))
  obtain ⟨E, e1, e2, e3⟩ := hWP.lw.wm.mm.hm.mo
  have cw := hWP.lw.wm.cells
  rw [hWP.lw.hv] at cw
  have c0 := cw.1
  have c1 := hWP.lw.wm.mm.hm.cells.1
  have cp := HQ.out.vars.2.cell 0
  have hcc : cT S.H.cond 98304 ≤ E.length := by
    rw [← cT_len]
    have := nd_le (l1 := (List.range 98304).filter S.H.cond) (l2 := E.map (·.k)) (List.nodup_range.filter _) (fun b hb => by
      obtain ⟨b1, b2⟩ := List.mem_filter.1 hb
      obtain ⟨x, hx⟩ := hWP.lw.hi.wf.cd b b2
      obtain ⟨e, he, rfl⟩ := (e3 b).2 (by rw [hx]; rfl)
      exact List.mem_map_of_mem he)
    rw [List.length_map] at this
    exact this
  have hEl : E.length ≤ 98304 := e1.bound (fun e he => by
    have := (e3 e.k).1 ⟨e, he, rfl⟩
    obtain ⟨x, hx⟩ := Option.isSome_iff_exists.1 this
    exact (hWP.lw.hi.wf.lt hx).2)
  have hlen := fun ty => e1.len (P := Try.prog) Try.underlying59 ty
  obtain ⟨en, hen⟩ : ∃ x, E.length = x := ⟨_, rfl⟩
  rw [hen] at hcc hEl hlen
  have HQd : Hid (Q1 w' wB mB wP mP (i + 4 + (en - en)) (fun S _ _ => Cl S.H S.X ∧ cT S.H.cond 98304 ≤ en) wr) := hid ⟨S, M, φ, hWP, hRel, hTk, by rw [hSk]; omega, hSf.2 rfl, hcc⟩
  generalize S.L.hB = hB at c0 c1
  generalize S.L.mO = mO at c1 hlen
  clear hWP hRel hTk hSk hSf HQc HQ e1 e2 e3 cw hcc hen
  go_wp2_with fail
  clear c0 c1 cp hlen dj
  go_loopw [9] (fun v wr => ∃ r : Nat, r ≤ en ∧ v = .int .i64 (r : Int) ∧ Hid (Q1 w' wB mB wP mP (i + 4 + (en - r)) (fun S _ _ => Cl S.H S.X ∧ cT S.H.cond 98304 ≤ r) wr)) (fun v _ => (intOf v).toNat)
  case atStart => exact ⟨en, by omega, rfl, HQd⟩
  case round =>
  clear HQd
  obtain ⟨r, hr, rfl, HQ⟩ := hrel
  by_cases hr0 : 0 < r
  · as_aux_lemma =>
    have dr : decide ((0 : Int) < (r : Int)) = true := decide_eq_true (by omega)
    have rb : (r : Int) ≤ 98304 := by omega
    have hri : (r : Int) - 1 = ((r - 1 : Nat) : Int) := by omega
    have HCl : Hid (∀ ac : Nat, (ac = 4 ∨ ac = 6) → Calls Try.prog 20 #[.agg #[.int .u8 (ac : Int), .int .u8 0, .int .u64 0, .int .u64 0, .int .u64 0], .pointer (some ⟨mP, 0, none⟩), .pointer (some ⟨wP, 0, none⟩)] wr fun e w'' => e = .returned (.tuple #[]) ∧ Q1 w' wB mB wP mP (i + 4 + (en - (r - 1))) (fun S _ _ => Cl S.H S.X ∧ cT S.H.cond 98304 ≤ r - 1) w'') := hid (fun ac hac => by
      have := HQ.out.play (o := ⟨ac, 0, 0, 0, 0⟩) (P' := fun S _ _ => Cl S.H S.X ∧ cT S.H.cond 98304 ≤ r - 1) (by omega) ⟨by show ac < 256; omega, by show 0 < 256; omega, by show 0 < 18446744073709551616; omega, by show 0 < 18446744073709551616; omega, by show 0 < 18446744073709551616; omega⟩ (fun S M φ z S' M' φ' h1 h2 h3 h4 => by
        obtain ⟨X', hd, hx⟩ := h3.ds
        obtain ⟨k1, k2⟩ := h1.1.step h2 hac hd
        rw [hx]
        exact ⟨k1, by have := h1.2; omega⟩)
      rw [show i + 4 + (en - r) + 1 = i + 4 + (en - (r - 1)) by omega] at this
      exact this)
    have HC4 : Hid (Calls Try.prog 20 #[.agg #[.int .u8 4, .int .u8 0, .int .u64 0, .int .u64 0, .int .u64 0], .pointer (some ⟨mP, 0, none⟩), .pointer (some ⟨wP, 0, none⟩)] wr fun e w'' => e = .returned (.tuple #[]) ∧ Q1 w' wB mB wP mP (i + 4 + (en - (r - 1))) (fun S _ _ => Cl S.H S.X ∧ cT S.H.cond 98304 ≤ r - 1) w'') := hid (HCl.out 4 (.inl rfl))
    have HC6 : Hid (Calls Try.prog 20 #[.agg #[.int .u8 6, .int .u8 0, .int .u64 0, .int .u64 0, .int .u64 0], .pointer (some ⟨mP, 0, none⟩), .pointer (some ⟨wP, 0, none⟩)] wr fun e w'' => e = .returned (.tuple #[]) ∧ Q1 w' wB mB wP mP (i + 4 + (en - (r - 1))) (fun S _ _ => Cl S.H S.X ∧ cT S.H.cond 98304 ≤ r - 1) w'') := hid (HCl.out 6 (.inr rfl))
    clear HCl
    by_cases hi0 : i = 0
    · as_aux_lemma =>
      have d0 : decide ((0 : Int) < (i : Int)) = false := decide_eq_false (by omega)
      have d0n : decide (0 < i) = false := decide_eq_false (by omega)
      clear HC6 hi0
      go_wp2_with fail
      refine HC4.out.mono ?_
      rintro e w5 ⟨rfl, hQ5⟩
      have HQ5 := hid hQ5
      clear hQ5 HC4 HQ
      go_wp2
      exact ⟨⟨r - 1, by omega, by rw [← hri], HQ5⟩, by simp [intOf]; omega⟩
    have d0 : decide ((0 : Int) < (i : Int)) = true := decide_eq_true (by omega)
    have i0 : (0 : Int) < (i : Int) := by omega
    have d0n : decide (0 < i) = true := decide_eq_true (by omega)
    have i0n : 0 < i := by omega
    obtain ⟨o, ho, hok, b, off, rfl, hb, c0, c1, c2, c3, c4⟩ := (HS.out.below HQ.out.bel).at (k := 0) (by omega)
    have c2' : wr.cell? ⟨b, off + 2, none⟩ = some (.int .u64 (o.a : Int)) := by have := c2; simpa using this
    have ob2 : (o.a : Int) < 18446744073709551616 := by have := hok.a; omega
    clear ho hok c0 c1 c2 c3 c4
    obtain ⟨sv, hsv, hsb⟩ := wrap_u64 o.a r
    have svb : (sv : Int) < 18446744073709551616 := by omega
    have Hsv := hid hsv
    clear hsv hsb hi0 HQ
    rcases (by omega : sv % 2 = 0 ∨ sv % 2 = 1) with hm | hm
    · as_aux_lemma =>
      have htm : (IntKind.u64.wrap ((o.a : Int) + (r : Int))).tmod 2 = 0 := by rw [Hsv.out, Int.tmod_eq_emod_of_nonneg (by omega)]; omega
      clear HC4 hm
      go_wp2_with fail
      refine HC6.out.mono ?_
      rintro e w5 ⟨rfl, hQ5⟩
      have HQ5 := hid hQ5
      clear hQ5 HC6
      go_wp2
      exact ⟨⟨r - 1, by omega, by rw [← hri], HQ5⟩, by simp [intOf]; omega⟩
    · as_aux_lemma =>
      have htm : (IntKind.u64.wrap ((o.a : Int) + (r : Int))).tmod 2 = 1 := by rw [Hsv.out, Int.tmod_eq_emod_of_nonneg (by omega)]; omega
      clear HC6 hm
      go_wp2_with fail
      refine HC4.out.mono ?_
      rintro e w5 ⟨rfl, hQ5⟩
      have HQ5 := hid hQ5
      clear hQ5 HC4
      go_wp2
      exact ⟨⟨r - 1, by omega, by rw [← hri], HQ5⟩, by simp [intOf]; omega⟩
  obtain rfl : r = 0 := by omega
  as_aux_lemma =>
  rw [show ((0 : Nat) : Int) = 0 from rfl]
  have dr : decide ((0 : Int) < 0) = false := rfl
  obtain ⟨wO, hwO⟩ : ∃ x : World, x = wr := ⟨_, rfl⟩
  subst hwO
  obtain ⟨S, M, φ, hWP, hRel, hTk, hSk, hCl, hcT⟩ := HQ.out.ex
  have h0 : cT S.H.cond 98304 = 0 := by omega
  have HW := hid hWP
  have HRel := hid hRel
  have HFin := hid (And.intro hTk (And.intro hCl h0))
  have HSk : Hid (S.k ≤ 200000) := hid (by rw [hSk]; omega)
  have HBd : Hid (MBd M S.k) := hid (hRel.mbd hWP.lw (by rw [hSk]; omega))
  obtain ⟨σ, N, hMN, hNB, _⟩ := hWP.ex
  have HMN := hid hMN
  have HNB := hid hNB
  obtain ⟨ra, rk, hrk⟩ := rows_of hMN
  obtain ⟨rn, hrn⟩ : ∃ f : Nat → Nat, ∀ m, (M.roots m).length = f m := ⟨fun m => (M.roots m).length, fun m => rfl⟩
  have HRs : Hid (∀ m, m < 4 → ∀ wz, Below wO.heap.size wO wz → wz.cell? ⟨mB, 1 + m, none⟩ = some (.slice (ra m) (rn m) (rk m)) ∧ (∀ ad, ra m = some ad → ∀ j u, (aK .i64 (M.roots m))[j]? = some u → wz.cell? (ad.add j) = some u) ∧ (ra m = none → rn m = 0 ∧ rk m = 0)) := hid (fun m hm wz hz => by
    have h1 := hMN.below hz
    have c1 := (h1.rcell hm).1
    have h2 := h1.pt.rt m hm
    rw [hrk m hm, hrn m] at h2
    rw [hNB, hrk m hm, hrn m] at c1
    obtain ⟨g1, g2, g3⟩ := h2.src
    exact ⟨c1, g1, g2⟩)
  have HRn : Hid (∀ m, (M.roots m).length = rn m) := hid hrn
  have hrb : ∀ m, m < 4 → rn m ≤ 64 := fun m hm => by rw [← hrn m]; exact HBd.out.rt m hm
  have HRb := hid hrb
  have HV : Hid (∀ wz, Below wO.heap.size wO wz → wz.cell? ⟨mP, 0, none⟩ = some (.pointer (some ⟨mB, 0, none⟩)) ∧ wz.cell? ⟨wP, 0, none⟩ = some (.pointer (some ⟨wB, 0, none⟩))) := hid (fun wz hz => by
    have h1 := (hWP.below hz)
    exact ⟨(h1.bl _ List.mem_cons_self).1.cell 0, (h1.bl _ (List.mem_cons_of_mem _ List.mem_cons_self)).1.cell 0⟩)
  have hidx : ∀ k : Nat, k < 4 → ∀ w9 : World, (Instr.index 40 (.agg #[.slice (ra 0) (rn 0) (rk 0), .slice (ra 1) (rn 1) (rk 1), .slice (ra 2) (rn 2) (rk 2), .slice (ra 3) (rn 3) (rk 3)]) (.int .i64 (k : Int))).run Try.prog w9 = .ok (.slice (ra k) (rn k) (rk k)) w9 := fun k hk w9 => by
    rcases (by omega : k = 0 ∨ k = 1 ∨ k = 2 ∨ k = 3) with rfl | rfl | rfl | rfl <;> kernel_rfl
  have HIx := hid hidx
  have hmm := @run_makeMap Try.prog
  obtain ⟨rm, hrm⟩ : ∃ r, wO.heap.size = r := ⟨_, rfl⟩
  have Hrm := hid hrm
  obtain ⟨w4, hw4⟩ : ∃ w4, wO.alloc (.map #[] 0) = w4 := ⟨_, rfl⟩
  have HT0 : Hid (TI wO rm [] (.slice none 0 0) (catM M 0) w4) := hid (by
    rw [← hw4]
    exact ⟨nbel wO _, World.ownsRow_nil _ _ _ _, IK.PN.new wO hrm, fun e he => (by cases he)⟩)
  have cV := (HV.out w4 HT0.out.bel).1
  have cR0 : w4.cell? ⟨mB, 1, none⟩ = some (.slice (ra 0) (rn 0) (rk 0)) := (HRs.out 0 (by omega) w4 HT0.out.bel).1
  have cR1 : w4.cell? ⟨mB, 2, none⟩ = some (.slice (ra 1) (rn 1) (rk 1)) := (HRs.out 1 (by omega) w4 HT0.out.bel).1
  have cR2 : w4.cell? ⟨mB, 3, none⟩ = some (.slice (ra 2) (rn 2) (rk 2)) := (HRs.out 2 (by omega) w4 HT0.out.bel).1
  have cR3 : w4.cell? ⟨mB, 4, none⟩ = some (.slice (ra 3) (rn 3) (rk 3)) := (HRs.out 3 (by omega) w4 HT0.out.bel).1
  clear hWP hRel hTk hSk hCl hcT h0 hMN hNB hrk hrn hrb hidx HQ
  go_upto_region 23 with fail
  (try simp only [hrm])
  (try simp only [hw4])
  clear hw4 hrm hmm
  go_wp2_with fail
  clear cV cR0 cR1 cR2 cR3 dr
  go_loopw [12, 81] (fun v j wq => ∃ k : Nat, k ≤ 4 ∧ j = .int .i64 (k : Int) ∧ Hid (TI wO rm [] v (catM M k) wq) ∧ (catM M k).length ≤ 64 * k) (fun _ j _ => 4 - (intOf j).toNat)
  case atStart => exact ⟨0, by omega, rfl, HT0, Nat.zero_le _⟩
  case round =>
  clear HT0
  obtain ⟨k, hk, rfl, HT, hcl⟩ := hrel
  by_cases hk4 : k < 4
  · as_aux_lemma =>
    have dk : decide ((k : Int) < 4) = true := decide_eq_true (by omega)
    have hix := HIx.out k hk4
    obtain ⟨va, vk, hv⟩ := ownI_shape HT.out.own
    have HOw := hid HT.out.own
    obtain ⟨xn, hxn⟩ : ∃ x, (catM M k).length = x := ⟨_, rfl⟩
    rw [hxn] at hv
    subst hv
    obtain ⟨_, g1, g2⟩ := HRs.out k hk4 wr HT.out.bel
    have HSr := hid (And.intro g1 g2)
    have hbb : ((catM M k).length + rn k) * 8 ≤ 140737488355328 := by have := HRb.out k hk4; omega
    have hbs : wO.heap.size ≤ wr.heap.size := HT.out.bel.size
    have hlen := HRn.out k
    have hcl2 : (catM M (k + 1)).length ≤ 64 * (k + 1) := by
      show (catM M k ++ M.roots k).length ≤ _
      rw [List.length_append, hlen]
      have := HRb.out k hk4
      omega
    have Hcl2 := hid hcl2
    clear g1 g2 hcl hcl2
    go_wp2_with (at_builtin; refine wpList_app_int rfl (.tmp 84) (.tmp 85) rfl rfl HOw.out (ra k) (rn k) (rk k) rfl hlen HSr.out.2 HSr.out.1 hbb hbs ?_; intro v8 w8 hO8 hB8 hK8)
    have hT8 : TI wO rm [] v8 (catM M (k + 1)) w8 := ⟨HT.out.bel.trans hB8, hO8, HT.out.pn.of (hK8 rm HT.out.pn.lt (fun g hg e => ownI_map HOw.out HT.out.pn g hg e.symm)), HT.out.vt⟩
    exact ⟨⟨k + 1, by omega, by go_num, hid hT8, Hcl2.out⟩, by simp [intOf]; omega⟩
  obtain rfl : k = 4 := by omega
  as_aux_lemma =>
  rw [show ((4 : Nat) : Int) = 4 from rfl]
  have dk : decide ((4 : Int) < 4) = false := rfl
  have HG0 : Hid (Gth S.H S.X M φ (([] : List IK.Ent).map (·.k)) (catM M 4)) := hid (by
    refine ⟨fun y hy => ?_, fun y hy => (by cases hy), fun m hm y hy => .inr (.inr ((catM_mem M 4).2 ⟨m, hm, hy⟩)), fun y hy => (by cases hy), List.nodup_nil⟩
    obtain ⟨m, hm, hy⟩ := (catM_mem M 4).1 hy
    rw [HRel.out.rm.roots m hm] at hy
    obtain ⟨a, ha, rfl⟩ := List.mem_map.1 hy
    by_cases e : a = 0
    · left; rw [e]; exact HRel.out.rm.mt.z
    · exact .inr ⟨a, .root m a hm ha e, rfl⟩)
  have HL0 : Hid ((catM M 4).length ≤ 256 + 8192 * ([] : List IK.Ent).length) := hid (by simp; omega)
  have hob9 : M.objs.length ≤ 200000 := by have := HBd.out.ob; have := HSk.out; omega
  clear hcl HRs HRn HRb HIx
  go_wp2_with fail
  go_loopw [12] (fun v wq => ∃ ys E, Hid (TI wO rm E v ys wq) ∧ Hid (Gth S.H S.X M φ (E.map (·.k)) ys) ∧ Hid (ys.length ≤ 256 + 8192 * E.length)) (fun v wq => (200001 - mapN wq rm) * 8200 + sliceN v)
  case atStart => exact ⟨_, [], HT, HG0, HL0⟩
  case round =>
  clear HT HG0 HL0 dk
  obtain ⟨ys, E, HT, HG, HLe⟩ := hrel
  have hE : E.length ≤ 200000 := by
    have := HG.out.len HRel.out.rm
    rw [List.length_map] at this
    omega
  rcases List.eq_nil_or_concat ys with rfl | ⟨zs, y, rfl⟩
  rotate_left
  · as_aux_lemma =>
    rw [List.concat_eq_append] at HT HG HLe
    obtain ⟨g, gk, hv, hk1, hk2, cx, hpop⟩ := ownI_pop HT.out.own
    subst hv
    have Hpop := hid hpop
    obtain ⟨zn, hzn⟩ : ∃ n, zs.length = n := ⟨_, rfl⟩
    rw [hzn] at hk1 cx ⊢
    have Hzn := hid hzn
    have hnl : zn + 1 ≤ 256 + 8192 * E.length := by have := HLe.out; rw [List.length_append, List.length_singleton, hzn] at this; omega
    obtain ⟨ln, hln⟩ : ∃ l, zn + 1 = l := ⟨_, rfl⟩
    rw [hln]
    have hli : (ln : Int) - 1 = (zn : Int) := by omega
    have ilt : (zn : Int) < (ln : Int) := by omega
    have lnb : (ln : Int) ≤ 2000000000 := by omega
    have dl : decide ((0 : Int) < (ln : Int)) = true := decide_eq_true (by omega)
    have dl2 : decide (0 < ln) = true := decide_eq_true (by omega)
    have kb : (gk : Int) ≤ 9223372036854775807 := by unfold maxLen at hk2; omega
    have kb2 : (zn : Int) ≤ (gk : Int) := by omega
    have Hms : Hid (mapN wr rm = E.length) := hid HT.out.pn.mapN'
    have HE := hid hE
    have HBe := hid HT.out.bel
    have HPn := hid HT.out.pn
    have HVt := hid HT.out.vt
    have Hln := hid hln
    clear hpop hzn hk1 hk2 hE HT hln
    by_cases hy0 : y = 0
    · as_aux_lemma =>
      subst hy0
      have HT2 : Hid (TI wO rm E (.slice (some ⟨g, 0, none⟩) zn gk) zs wr) := hid ⟨HBe.out, by have := Hpop.out; rw [Hzn.out] at this; rw [Hzn.out]; exact this, HPn.out, HVt.out⟩
      have HG2 := hid HG.out.zero_pop
      have HL2 : Hid (zs.length ≤ 256 + 8192 * E.length) := hid (by rw [Hzn.out]; omega)
      clear Hpop HG HLe
      go_wp2
      exact ⟨⟨zs, E, HT2, HG2, HL2⟩, by simp [sliceN]; omega⟩
    have d0 : ((y : Int) == 0) = false := by simp; omega
    by_cases hyE : ∃ e ∈ E, e.k = y
    · as_aux_lemma =>
      obtain ⟨e, he, hek⟩ := hyE
      have hlk := HPn.out.look (P := Try.prog) Try.underlying75 und_int he
      rw [hek, HVt.out e he] at hlk
      have HT2 : Hid (TI wO rm E (.slice (some ⟨g, 0, none⟩) zn gk) zs wr) := hid ⟨HBe.out, by have := Hpop.out; rw [Hzn.out] at this; rw [Hzn.out]; exact this, HPn.out, HVt.out⟩
      have HG2 := hid (HG.out.seen_pop (by rw [← hek]; exact List.mem_map_of_mem he))
      have HL2 : Hid (zs.length ≤ 256 + 8192 * E.length) := hid (by rw [Hzn.out]; omega)
      clear Hpop HG HLe hy0 he hek
      go_wp2
      exact ⟨⟨zs, E, HT2, HG2, HL2⟩, by simp [sliceN]; omega⟩
    as_aux_lemma =>
    have hne : ∀ e ∈ E, e.k ≠ y := fun e he hek => hyE ⟨e, he, hek⟩
    have hlk := HPn.out.lookZ (P := Try.prog) Try.underlying75 und_int hne zero_bool
    obtain ⟨w2, b2, hput, hpn2, hu2⟩ := HPn.out.put (P := Try.prog) Try.underlying75 und_int y (.bool true) hne
    have hbe2 : Below wO.heap.size wO w2 := HBe.out.trans (hu2.below (by rw [Hrm.out]; omega) HBe.out.size)
    have hyR : y ∉ E.map (·.k) := fun hm => by
      obtain ⟨e, he, hek⟩ := List.mem_map.1 hm
      exact hne e he hek
    obtain ⟨q, hq⟩ : ∃ q, M.objs[y - 1]? = some q := by
      obtain ⟨a, ha, hay⟩ := (HG.out.yw y (by simp)).resolve_left hy0
      obtain ⟨x, q, _, k1, k2, _⟩ := HRel.out.rm.mt.ob a ha
      exact ⟨q, by rw [← hay]; exact k2⟩
    have HG2 := hid (HG.out.add HRel.out.rm HW.out.lw.hi hy0 hyR hq)
    obtain ⟨i0, hi0⟩ : ∃ i, y - 1 = i := ⟨_, rfl⟩
    rw [hi0] at hq
    have hyi : (y : Int) - 1 = (i0 : Int) := by omega
    obtain ⟨no, hno⟩ : ∃ x, M.objs.length = x := ⟨_, rfl⟩
    have i0lt : (i0 : Int) < (no : Int) := by have := (List.getElem?_eq_some_iff.1 hq).1; omega
    have i0lt0 : i0 < no := by omega
    have nob : (no : Int) ≤ 200000 := by omega
    have yb : (y : Int) ≤ 200000 := by omega
    obtain ⟨gO, kO, eO, hOat⟩ := HMN.out.oat hq
    have hat := hOat w2 hbe2
    rw [HNB.out, hno] at hat
    have kOb : no ≤ kO ∧ kO ≤ maxLen := by
      rcases HMN.out.pt.ow.2 with ⟨e, h0⟩ | ⟨g', cap, cur, e, h5, hg', hn', hc', hs', ht'⟩
      · omega
      · rw [eO] at e
        injection e with t1 t2 t3
        subst t3
        exact ⟨by omega, by omega⟩
    have kO1 : (kO : Int) ≤ 9223372036854775807 := by have := kOb.2; unfold maxLen at this; omega
    have kO2 : (no : Int) ≤ (kO : Int) := by omega
    obtain ⟨rn2, hrn2⟩ : ∃ x, q.refs.length = x := ⟨_, rfl⟩
    obtain ⟨mrB, hmrB⟩ : ∃ x, N.rb i0 = x := ⟨_, rfl⟩
    have c0 := hat.c
    have c1 := hat.r
    have hrb := hat.rb
    rw [hmrB] at c1 hrb
    rw [hrn2] at c1
    have cV := (HV.out w2 hbe2).1
    have hsz := (HMN.out.pt.o i0 q hq).sz
    have rn2b : rn2 ≤ 8192 := by omega
    have HRf : Hid (∀ ad, some (⟨mrB, 0, none⟩ : Addr) = some ad → ∀ j u, (aK .i64 q.refs)[j]? = some u → w2.cell? (ad.add j) = some u) := hid (fun ad had j u hu => by
      cases had
      have e : (⟨mrB, 0, none⟩ : Addr).add j = ⟨mrB, j, none⟩ := by unfold Addr.add; split <;> simp_all
      rw [e, hrb.cell]
      exact hu)
    have hown2 := ownI_upd Hpop.out hu2 (fun g' hg' => ownI_map Hpop.out HPn.out g' hg')
    have HOw := hid hown2
    have HPn2 := hid hpn2
    have HBe2 := hid hbe2
    have hbb : (zs.length + rn2) * 8 ≤ 140737488355328 := by rw [Hzn.out]; have := HE.out; omega
    have hbs : wO.heap.size ≤ w2.heap.size := hbe2.size
    have HVt2 : Hid (∀ e ∈ E ++ [⟨y, .bool true, b2⟩], e.v = .bool true) := hid (fun e he => by
      rcases List.mem_append.1 he with h | h
      · exact HVt.out e h
      · simp at h; subst h; rfl)
    have HL2 : Hid ((zs ++ q.refs).length ≤ 256 + 8192 * (E ++ [(⟨y, .bool true, b2⟩ : IK.Ent)]).length) := hid (by
      rw [List.length_append, List.length_append, List.length_singleton, Hzn.out]
      omega)
    have Hrn2 := hid hrn2
    have HGm : Hid (Gth S.H S.X M φ ((E ++ [(⟨y, .bool true, b2⟩ : IK.Ent)]).map (·.k)) (zs ++ q.refs)) := hid (by rw [List.map_append]; exact HG2.out)
    rw [Hzn.out] at HOw
    have hrn3 := hrn2
    clear hpn2 hu2 hbe2 hyR hq hi0 hno eO hOat hat kOb hrb hmrB hsz hown2 hyE hne hy0 HG HG2 HLe Hpop hrn2
    go_wp2_with (at_builtin; refine wpList_app_int (xs := zs) rfl (.tmp 111) (.tmp 120) rfl rfl (by rw [Hzn.out]; exact HOw.out) (some ⟨mrB, 0, none⟩) rn2 rn2 rfl hrn3 (fun h => by cases h) HRf.out hbb hbs ?_; intro v8 w8 hO8 hB8 hK8)
    have hP8 := HPn2.out.of (hK8 rm HPn2.out.lt (fun g' hg' e => ownI_map HOw.out HPn2.out g' hg' e.symm))
    have hT8 : TI wO rm (E ++ [⟨y, .bool true, b2⟩]) v8 (zs ++ q.refs) w8 := ⟨HBe2.out.trans hB8, hO8, hP8, HVt2.out⟩
    have hv8 : sliceN v8 = zn + rn2 := by
      obtain ⟨a8, k8, e8⟩ := ownI_shape hO8
      rw [e8]
      show (zs ++ q.refs).length = _
      rw [List.length_append, Hzn.out, Hrn2.out]
    refine ⟨⟨_, _, hid hT8, HGm, HL2⟩, ?_⟩
    rw [hP8.mapN', Hms.out, hv8, List.length_append, List.length_singleton]
    have := HE.out
    have h9 : rn2 ≤ 8192 := by omega
    show (200001 - (E.length + 1)) * 8200 + (zn + rn2) < (200001 - E.length) * 8200 + ln
    have := Hln.out
    omega
  as_aux_lemma =>
  obtain ⟨va, vk, hv⟩ := ownI_shape HT.out.own
  subst hv
  have HPn := hid HT.out.pn
  have HBe := hid HT.out.bel
  have HAs : Hid (∃ A : List Nat, A.Nodup ∧ (∀ a, a ∈ A ↔ (S.H.objs a).isSome = true) ∧ ∀ wz, Below wO.heap.size wO wz → ∀ ty, (Builtin.len_ #[59] ty #[.map (some S.L.mO)]).run Try.prog wz = .ok (.int .i64 (A.length : Int)) wz) := hid (by
    obtain ⟨EA, a1, a2, a3⟩ := HW.out.lw.wm.mm.hm.mo
    refine ⟨EA.map (·.k), a1.nek, fun a => ?_, fun wz hz ty => ?_⟩
    · rw [← a3 a]
      exact ⟨fun h => by obtain ⟨e, he, rfl⟩ := List.mem_map.1 h; exact ⟨e, he, rfl⟩, fun ⟨e, he, h⟩ => by rw [← h]; exact List.mem_map_of_mem he⟩
    · rw [List.length_map]
      exact (a1.below hz).len (P := Try.prog) Try.underlying59 ty)
  obtain ⟨A, hA1, hA2, hA3⟩ := HAs.out
  obtain ⟨hct1, hct2⟩ := HG.out.counts HRel.out.rm HW.out.lw.hi HFin.out.1 HFin.out.2.1 HFin.out.2.2 hA1 hA2
  rw [List.length_map] at hct1
  rw [hct1] at hA3
  obtain ⟨hB, hhB⟩ : ∃ b, S.L.hB = b := ⟨_, rfl⟩
  obtain ⟨tB, htB⟩ : ∃ b, S.L.tB = b := ⟨_, rfl⟩
  obtain ⟨mO, hmO⟩ : ∃ b, S.L.mO = b := ⟨_, rfl⟩
  rw [hmO] at hA3
  have HA3 := hid hA3
  have HCw : Hid (∀ wz, Below wO.heap.size wO wz → wz.cell? ⟨wB, 0, none⟩ = some (.pointer (some ⟨hB, 0, none⟩)) ∧ wz.cell? ⟨hB, 0, none⟩ = some (.map (some mO)) ∧ wz.cell? ⟨hB, 1, none⟩ = some (.slice (some ⟨tB, 0, none⟩) 32768 32768) ∧ ∀ t, t < 32768 → wz.cell? ⟨tB, t, none⟩ = some (.bool (S.H.taken t))) := hid (fun wz hz => by
    have h1 := (HW.out.below hz).lw
    have cw := h1.wm.cells
    have ch := h1.wm.mm.hm.cells
    rw [h1.hv, hhB] at cw
    rw [hhB, hmO, htB] at ch
    refine ⟨cw.1, ch.1, ch.2.1, fun t ht => ?_⟩
    have := h1.wm.mm.hm.tcell ht
    rw [htB] at this
    exact this)
  obtain ⟨tot, htot⟩ : ∃ x, cT S.H.taken 32768 = x := ⟨_, rfl⟩
  rw [htot] at hct2
  have Htot := hid htot
  have Hct2 := hid hct2
  have htb : tot ≤ 32768 := by
    rw [← htot, ← cT_len]
    have := List.length_filter_le S.H.taken (List.range 32768)
    rw [List.length_range] at this
    exact this
  have HRs : Hid (∀ y ∈ E.map (·.k), ∃ q, 1 ≤ y ∧ M.objs[y - 1]? = some q) := hid (fun y hy => by
    obtain ⟨a, ha, rfl⟩ := HG.out.rs y hy
    obtain ⟨x, q, _, k1, k2, _⟩ := HRel.out.rm.mt.ob a ha
    exact ⟨q, k1, k2⟩)
  have hEl : E.length ≤ 200000 := hE
  have HNd := hid HG.out.nd
  obtain ⟨it, hit⟩ : ∃ r, wr.heap.size = r := ⟨_, rfl⟩
  have Hit : Hid (wO.heap.size ≤ it) := hid (by rw [← hit]; exact HBe.out.size)
  clear hA1 hA2 hA3 hct1 hct2 hhB htB hmO htot HAs HG HT HLe hE HFin
  simp only [List.length_nil]
  go_wp2_with (at_range; refine IK.wpList_range_pn rfl (.tmp 122) 75 rfl Try.underlying75 rm E rfl HPn.out ?_; intro w9 hit9 hbe9 hsz9)
  go_frame
  have HI9 : Hid (IK.IT w9 it rm E (E.map (·.k)) ∧ IK.PN w9 rm E ∧ Below wO.heap.size wO w9) := hid ⟨by rw [← hit]; exact hit9, HPn.out.below hbe9, HBe.out.trans (hbe9.mono HBe.out.size)⟩
  simp only [hit]
  clear hit9 hbe9 hsz9 HPn HBe hit
  go_wp2_with fail
  go_loopw [16] (fun v wq => ∃ s T, v = .int .i64 ((s : Nat) : Int) ∧ Hid (IK.IT wq it rm E T ∧ IK.PN wq rm E ∧ Below wO.heap.size wO wq) ∧ Hid (T.Nodup ∧ (∀ y ∈ T, y ∈ E.map (·.k)) ∧ s + sumF (wqM M) T = tot)) (fun _ wq => World.rangeLeft wq rm it)
  case atStart => exact ⟨0, _, rfl, HI9, hid ⟨HNd.out, fun y hy => hy, by rw [Hct2.out]; omega⟩⟩
  case round =>
  clear HI9
  obtain ⟨s, T, rfl, HI, HTs⟩ := hrel
  go_upto_region 36 with fail
  refine wp_region_lit ?_
  refine IK.wpList_next_pn rfl (.tmp 123) rfl it rm E T rfl HI.out.2.1 HI.out.1 ?_ ?_
  rotate_left
  · as_aux_lemma =>
    intro e wz he hkT hpz hiz huz hsz hent
    have hbz : Below wO.heap.size wO wz := HI.out.2.2.trans (huz.below Hit.out HI.out.2.2.size)
    obtain ⟨q, hy1, hq⟩ := HRs.out e.k (List.mem_map_of_mem he)
    have hleft : World.rangeLeft wz rm it < World.rangeLeft wr rm it := by
      rw [hiz.left, HI.out.1.left]
      exact IK.left_less he hkT
    have Hleft := hid hleft
    have hsum := sumF_filter (wqM M) HTs.out.1 hkT
    obtain ⟨y, hy⟩ : ∃ y, e.k = y := ⟨_, rfl⟩
    obtain ⟨ev, hev⟩ : ∃ v, e.v = v := ⟨_, rfl⟩
    rw [hy] at hent hsum hy1 hq hiz ⊢
    rw [hev] at hent ⊢
    obtain ⟨i0, hi0⟩ : ∃ i, y - 1 = i := ⟨_, rfl⟩
    obtain ⟨rn2, hrn2⟩ : ∃ x, q.refs.length = x := ⟨_, rfl⟩
    obtain ⟨dn2, hdn2⟩ : ∃ x, q.data.length = x := ⟨_, rfl⟩
    have hwq : wqM M y = 1 + rn2 + dn2 := by unfold wqM; rw [hq]; show 1 + q.refs.length + q.data.length = _; rw [hrn2, hdn2]
    rw [hwq] at hsum
    rw [hi0] at hq
    have hyi : (y : Int) - 1 = (i0 : Int) := by omega
    obtain ⟨no, hno⟩ : ∃ x, M.objs.length = x := ⟨_, rfl⟩
    have i0lt : (i0 : Int) < (no : Int) := by have := (List.getElem?_eq_some_iff.1 hq).1; omega
    have i0lt0 : i0 < no := by omega
    have nob : (no : Int) ≤ 200000 := by omega
    have yb : (y : Int) ≤ 200000 := by omega
    obtain ⟨gO, kO, eO, hOat⟩ := HMN.out.oat hq
    have hat := hOat wz hbz
    rw [HNB.out, hno] at hat
    have kOb : no ≤ kO ∧ kO ≤ maxLen := by
      rcases HMN.out.pt.ow.2 with ⟨e, h0⟩ | ⟨g', cap, cur, e, h5, hg', hn', hc', hs', ht'⟩
      · omega
      · rw [eO] at e
        injection e with t1 t2 t3
        subst t3
        exact ⟨by omega, by omega⟩
    have kO1 : (kO : Int) ≤ 9223372036854775807 := by have := kOb.2; unfold maxLen at this; omega
    have kO2 : (no : Int) ≤ (kO : Int) := by omega
    have c0 := hat.c
    have c1 := hat.r
    have c2 := hat.d
    rw [hrn2] at c1
    rw [hdn2] at c2
    generalize N.rb i0 = mrB at c1
    generalize N.db i0 = mdB at c2
    have cV := (HV.out wz hbz).1
    have hst := HTs.out.2.2
    have sb : (s : Int) ≤ 32768 := by omega
    have rnb : (rn2 : Int) ≤ 32768 := by omega
    have dnb : (dn2 : Int) ≤ 32768 := by omega
    have HT2 : Hid ((T.filter fun k => decide (k ≠ y)).Nodup ∧ (∀ z ∈ T.filter fun k => decide (k ≠ y), z ∈ E.map (·.k)) ∧ s + (1 + rn2 + dn2) + sumF (wqM M) (T.filter fun k => decide (k ≠ y)) = tot) := hid ⟨HTs.out.1.filter _, fun z hz => HTs.out.2.1 z (List.mem_filter.1 hz).1, by omega⟩
    have HNew : Hid (∀ o, (IK.IT (wz.alloc o) it rm E (T.filter fun k => decide (k ≠ y)) ∧ IK.PN (wz.alloc o) rm E ∧ Below wO.heap.size wO (wz.alloc o)) ∧ World.rangeLeft (wz.alloc o) rm it < World.rangeLeft wr rm it) := hid (fun o => by
      have hb := nbel wz o
      have h1 := hiz.of (hb.block it hiz.lt) (hb.block rm hpz.lt)
      exact ⟨⟨h1, hpz.below hb, hbz.trans (hb.mono hbz.size)⟩, by rw [h1.left, ← hiz.left]; exact Hleft.out⟩)
    clear he hkT hpz hiz huz hsz hbz hleft hsum hy hev hi0 hrn2 hdn2 hwq hq hno eO hOat hat kOb hst HI HTs HRs
    go_frame
    go_wp2
    exact ⟨⟨s + (1 + rn2 + dn2), _, by go_num, hid (HNew.out _).1, HT2⟩, (HNew.out _).2⟩
  as_aux_lemma =>
  intro hT
  have hs9 : s = tot := by have := HTs.out.2.2; rw [hT] at this; simpa [sumF] using this
  subst hs9
  have HBe := hid HI.out.2.2
  have HPn := hid HI.out.2.1
  have hlr := fun ty => HI.out.2.1.len (P := Try.prog) Try.underlying75 ty
  clear HI HTs hT HRs
  go_frame
  have cV := (HV.out wr HBe.out).2
  have c0 := (HCw.out wr HBe.out).1
  have c1 := (HCw.out wr HBe.out).2.2.1
  go_wp2_with fail
  obtain ⟨wI, hwI⟩ : ∃ x : World, x = wr := ⟨_, rfl⟩
  subst hwI
  clear cV c0 c1
  go_loopw [16, 154] (fun v j wq => ∃ t s' : Nat, t ≤ 32768 ∧ j = .int .i64 (t : Int) ∧ v = .int .i64 (s' : Int) ∧ s' + cT S.H.taken t = s ∧ wq = wI) (fun _ j _ => 32768 - (intOf j).toNat)
  case atStart => exact ⟨0, s, by omega, rfl, rfl, rfl, rfl⟩
  case round =>
  obtain ⟨t, s2, ht, rfl, rfl, hst, rfl⟩ := hrel
  by_cases ht2 : t < 32768
  · as_aux_lemma =>
    have dt : decide ((t : Int) < 32768) = true := decide_eq_true (by omega)
    have it2 : (t : Int) < 32768 := by omega
    have ct := (HCw.out wr HBe.out).2.2.2 t ht2
    have hmono := cT_mono S.H.taken (show t + 1 ≤ 32768 by omega)
    rw [Htot.out] at hmono
    have hsuc : cT S.H.taken (t + 1) = cT S.H.taken t + if S.H.taken t = true then 1 else 0 := rfl
    cases htk : S.H.taken t with
    | true =>
      as_aux_lemma =>
      rw [htk] at ct hsuc
      rw [if_pos rfl] at hsuc
      have s1 : (s2 : Int) - 1 = ((s2 - 1 : Nat) : Int) := by omega
      have sb2 : (s2 : Int) ≤ 32768 := by omega
      have Hs1 := hid s1
      clear s1 htk
      go_wp2
      exact ⟨⟨t + 1, s2 - 1, by omega, by go_num, by rw [← Hs1.out], by omega, by trivial⟩, by simp [intOf]; omega⟩
    | false =>
      as_aux_lemma =>
      rw [htk] at ct hsuc
      rw [if_neg (by simp)] at hsuc
      clear htk
      go_wp2
      exact ⟨⟨t + 1, s2, by omega, by go_num, rfl, by omega, by trivial⟩, by simp [intOf]; omega⟩
  obtain rfl : t = 32768 := by omega
  as_aux_lemma =>
  have hs0 : s2 = 0 := by rw [Htot.out] at hst; omega
  subst hs0
  rw [show ((32768 : Nat) : Int) = 32768 from rfl, show ((0 : Nat) : Int) = 0 from rfl]
  have dt : decide ((32768 : Int) < 32768) = false := rfl
  have cV := (HV.out wr HBe.out).2
  have cV2 := (HV.out wr HBe.out).1
  have c0 := (HCw.out wr HBe.out).1
  have c1 := (HCw.out wr HBe.out).2.1
  have hlo := HA3.out wr HBe.out
  have HAk := hid ((HW.out.below HBe.out).alike HRel.out (by have := HSk.out; omega))
  have HBl := hid (HW.out.below HBe.out).lw.bel
  clear hst
  go_wp2_with fail
  refine HAk.out.mono ?_
  rintro e w10 ⟨rfl, _, hb10⟩
  go_wp2
  go_ret
  exact ⟨rfl, HBl.out.trans (hb10.mono HBl.out.size)⟩
end Go.Proofs.Qxb6500889a
