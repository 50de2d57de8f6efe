/- The barrier: reapFresh. -/
import Derived.Test.Qxb6500888aBaP7
namespace Go.Proofs.Qxb6500888a
open Go.RowKit
set_option linter.unusedSimpArgs false
set_option linter.unusedVariables false

theorem GOk.free {G : GS} (h : GOk G) (a : Nat) : GOk (freeG G a) := by
  refine ⟨fun b n q hb => ?_, fun i hi => ?_, h.pd, fun b => ?_⟩
  · have hb' : fup G.head a none b = some (n, q) := hb
    by_cases e : b = a
    · subst e; rw [fup_self] at hb'; cases hb'
    · rw [fup_ne _ _ e] at hb'; exact h.hd b n q hb'
  · show fillF G.word (offA a) (szOf G a + 1) 0 i = 0 ∨ _
    by_cases e : offA a ≤ i ∧ i < offA a + (szOf G a + 1)
    · left; exact fillF_in _ _ e
    · have e2 : (freeG G a).word i = G.word i := fillF_out _ _ e
      rw [e2]
      have : fillF G.word (offA a) (szOf G a + 1) 0 i = G.word i := fillF_out _ _ e
      rw [this]
      exact h.wd i hi
  · show fup G.cnt a 0 b ≤ 3
    by_cases e : b = a
    · subst e; rw [fup_self]; omega
    · rw [fup_ne _ _ e]; exact h.ct b
def reap1 (p : GS × (Nat → List Nat)) (o : Nat) : GS × (Nat → List Nat) := if p.1.cnt o = 0 then (freeG p.1 o, hput p.2 6 o) else p
def reaps (p : GS × (Nat → List Nat)) (l : List Nat) : GS × (Nat → List Nat) := l.foldl reap1 p
theorem reaps_s (p : GS × (Nat → List Nat)) (l : List Nat) (o : Nat) : reaps p (l ++ [o]) = reap1 (reaps p l) o := by
  unfold reaps
  rw [List.foldl_append]
  rfl
def reapK (B : BS) (p : GS × (Nat → List Nat)) (k : Nat) : GS × (Nat → List Nat) := (List.range k).foldl (fun p m => reaps p (B.fresh m)) p
theorem reapK_s (B : BS) (p : GS × (Nat → List Nat)) (k : Nat) : reapK B p (k + 1) = reaps (reapK B p k) (B.fresh k) := by
  unfold reapK
  rw [List.range_succ, List.foldl_append]
  rfl
def clrF (B : BS) (k : Nat) : BS := { B with fresh := fun m => if m < k then [] else B.fresh m }
theorem clrF_0 (B : BS) : clrF B 0 = B := by unfold clrF; simp
theorem clrF_s (B : BS) (k : Nat) : ({ clrF B k with fresh := fup (clrF B k).fresh k [] } : BS) = clrF B (k + 1) := by
  unfold clrF
  dsimp only
  congr 1
  funext i
  by_cases h : i = k
  · subst h
    rw [fup_self, if_pos (by omega)]
  · rw [fup_ne _ _ h]
    by_cases h2 : i < k
    · rw [if_pos h2, if_pos (by omega)]
    · rw [if_neg h2, if_neg (by omega)]
/-- The reaping under way: what holds of the plain state. -/
structure RpS (G0 : GS) (hv0 : Nat → List Nat) (D : Nat) (G : GS) (hv : Nat → List Nat) : Prop where
  ok : GOk G
  d : G.deaths.length ≤ G0.deaths.length + D
  c : G.calls = G0.calls
  p : G.pend = G0.pend
  e : G.errs = G0.errs
  k : ∀ i, i ≠ 6 → hv i = hv0 i
  f : (hv 6).length ≤ (hv0 6).length + D
theorem RpS.step {G0 : GS} {hv0 : Nat → List Nat} {D : Nat} {p : GS × (Nat → List Nat)} (h : RpS G0 hv0 D p.1 p.2) (o : Nat) : RpS G0 hv0 (D + 1) (reap1 p o).1 (reap1 p o).2 := by
  unfold reap1
  by_cases h0 : p.1.cnt o = 0
  · rw [if_pos h0]
    refine ⟨h.ok.free o, ?_, h.c, h.p, h.e, fun i hi => ?_, ?_⟩
    · show (p.1.deaths ++ [o]).length ≤ _
      have := h.d
      simp
      omega
    · show fup p.2 6 _ i = _
      rw [fup_ne _ _ hi]
      exact h.k i hi
    · show (fup p.2 6 (p.2 6 ++ [o]) 6).length ≤ _
      rw [fup_self]
      have := h.f
      simp
      omega
  · rw [if_neg h0]
    exact ⟨h.ok, by have := h.d; omega, h.c, h.p, h.e, h.k, by have := h.f; omega⟩
section
variable {x : Nat} {w w' : World} {ρ ρ' : Rl} {L L' : GL} {T T' : BL} {hB : Nat} {V : Nat → Value} {G G' : GS} {B B' : BS} {hv : Nat → List Nat}
/-- The reaping under way, in memory. -/
structure RpM (w : World) (ρ : Rl) (L : GL) (T : BL) (hB : Nat) (G0 : GS) (hv0 : Nat → List Nat) (B : BS) (D : Nat) (p : GS × (Nat → List Nat)) (L' : GL) (T' : BL) (V' : Nat → Value) (ρ' : Rl) (wr : World) : Prop where
  pm : PMx 5 wr ρ' L' T' hB V' p.1 B p.2
  sm : L.Same L'
  tb : T'.bB = T.bB
  tl : T'.lv = T.lv
  fr : Fr zX ρ w ρ' wr
  rp : RpS G0 hv0 D p.1 p.2
theorem zX_f {m c : Nat} (hm : m < 4) (hc : (c == 16 + m || c == 12) = true) : zX c = true := by
  simp at hc
  exact decide_eq_true (by omega)
set_option maxRecDepth 1000000 in
set_option maxHeartbeats 8000000 in
theorem reap_walk (h : PMx 5 w ρ L T hB V G B hv) (hok : GOk G) {N : Nat} (hN : ∀ m, (B.fresh m).length ≤ N) (hN2 : N ≤ 1000000) (hd : G.deaths.length ≤ 100000000000) (hin : ∀ m, m < 4 → ∀ o ∈ B.fresh m, 65536 ≤ o ∧ o < 98304) (hl : (hv 6).length ≤ 100000000000) :
    Calls Try.prog 77 #[.pointer (some ⟨T.bB, 0, none⟩), .pointer (some ⟨hB, 0, none⟩)] w fun e w' => e = .returned (.tuple #[]) ∧ ∃ L' T' V' ρ', RpM w ρ L T hB G hv (clrF B 4) (4 * N) (reapK B (G, hv) 4) L' T' V' ρ' w' := by
  have HN := hid (And.intro hN hN2)
  have Hd := hid (And.intro hd hl)
  have HIn := hid hin
  have HS0 : Hid (RpM w ρ L T hB G hv (clrF B 0) (0 * N) (reapK B (G, hv) 0) L T V ρ w) := hid ⟨by rw [clrF_0]; exact h, GL.Same.refl _, rfl, rfl, Fr.refl _ _ _, ⟨hok, by show G.deaths.length ≤ G.deaths.length + 0 * N; omega, rfl, rfl, rfl, fun _ _ => rfl, by show (hv 6).length ≤ (hv 6).length + 0 * N; omega⟩⟩
  obtain ⟨bB, hbB⟩ : ∃ b, T.bB = b := ⟨_, rfl⟩
  have HbB := hid hbB
  rw [hbB]
  clear h hok hN hN2 hd hin hl hbB
  go_enter Try.func77, Try.ntmps77
  go_wp2_with fail
  go_loopw [8] (fun v wr => ∃ k : Nat, k ≤ 4 ∧ v = .int .i64 (k : Int) ∧ Hid (∃ L' T' V' ρ', RpM w ρ L T hB G hv (clrF B k) (k * N) (reapK B (G, hv) k) L' T' V' ρ' wr)) (fun v _ => 4 - (intOf v).toNat)
  case atStart => exact ⟨0, by omega, rfl, hid ⟨L, T, V, ρ, HS0.out⟩⟩
  case round =>
    obtain ⟨k, hk, rfl, HX⟩ := hrel
    obtain ⟨L1, T1, V1, ρ1, hr1⟩ := HX.out
    have HR1 := hid hr1
    clear HX hr1 HS0
    by_cases hk4 : k < 4
    · have dk : decide ((k : Int) < 4) = true := decide_eq_true (by omega)
      have ik : (k : Int) < 4 := by omega
      have hfk : (clrF B k).fresh k = B.fresh k := by show (if k < k then _ else _) = _; rw [if_neg (by omega)]
      obtain ⟨a, q, hV⟩ := (HR1.out.pm.bm.fr k hk4).shape
      obtain ⟨n, hn⟩ : ∃ n, (B.fresh k).length = n := ⟨_, rfl⟩
      rw [hfk, hn] at hV
      have c1 := HR1.out.pm.bm.fcell hk4
      rw [hV, HR1.out.tb, HbB.out] at c1
      have HV := hid hV
      have Hn := hid hn
      have Hfk := hid hfk
      have hnN : n ≤ N := by rw [← hn]; exact HN.out.1 k
      have inn : (n : Int) ≤ 1000000 := by have := HN.out.2; omega
      have HI0 : Hid (RpM w ρ L T hB G hv (clrF B k) (k * N + 0) (reaps (reapK B (G, hv) k) ((B.fresh k).take 0)) L1 T1 V1 ρ1 wr) := hid HR1.out
      clear hV hn hfk HR1
      as_aux_lemma =>
      go_wp2_with fail
      clear c1 dk
      go_loopw [21] (fun v wr => ∃ i : Nat, i ≤ n ∧ v = .int .i64 (i : Int) ∧ Hid (∃ L' V' ρ', RpM w ρ L T hB G hv (clrF B k) (k * N + i) (reaps (reapK B (G, hv) k) ((B.fresh k).take i)) L' T1 V' ρ' wr)) (fun v _ => n - (intOf v).toNat)
      case atStart => exact ⟨0, by omega, rfl, hid ⟨L1, V1, ρ1, HI0.out⟩⟩
      case round =>
        obtain ⟨i, hi, rfl, HX⟩ := hrel
        obtain ⟨L2, V2, ρ2, hr2⟩ := HX.out
        have HR2 := hid hr2
        clear HX hr2 HI0
        by_cases hlt : i < n
        · have dk : decide ((i : Int) < (n : Int)) = true := decide_eq_true (by omega)
          have hil : i < (B.fresh k).length := by rw [Hn.out]; exact hlt
          have hrow := HR2.out.pm.bm.fr k hk4
          rw [Hfk.out] at hrow
          obtain ⟨g, q', hv', hg, hcc⟩ := hrow.get (by decide) (fun _ => rfl) (List.getElem?_eq_getElem hil)
          rw [HV.out] at hv'
          injection hv' with e1 e2 e3
          clear e2 e3
          subst e1
          have cg := hcc 0 (by decide)
          rw [show i * rtA.n + 0 = i by show i * 1 + 0 = i; omega] at cg
          have hgd : (B.fresh k)[i]'hil = (B.fresh k).getD i 0 := by simp [List.getD, hil]
          rw [hgd] at cg
          have cg' : wr.cell? ⟨g, i, none⟩ = some (.int .u64 (((B.fresh k).getD i 0 : Nat) : Int)) := cg
          have hmem := getD_mem hil
          have hoin := HIn.out k hk4 _ hmem
          have htk : (B.fresh k).take (i + 1) = (B.fresh k).take i ++ [(B.fresh k).getD i 0] := by rw [List.take_add_one, List.getElem?_eq_getElem hil, List.getD_eq_getElem?_getD, List.getElem?_eq_getElem hil]; rfl
          have Htk : Hid (reaps (reapK B (G, hv) k) ((B.fresh k).take (i + 1)) = reap1 (reaps (reapK B (G, hv) k) ((B.fresh k).take i)) ((B.fresh k).getD i 0)) := hid (by rw [htk, reaps_s])
          obtain ⟨p, hp⟩ : ∃ p, reaps (reapK B (G, hv) k) ((B.fresh k).take i) = p := ⟨_, rfl⟩
          rw [hp] at HR2 Htk
          obtain ⟨o, ho⟩ : ∃ o, (B.fresh k).getD i 0 = o := ⟨_, rfl⟩
          rw [ho] at cg' Htk hoin
          have Hoin := hid hoin
          clear hrow hg hcc cg hgd hmem htk hil hp ho hoin
          have c2 := HR2.out.pm.bm.gcells.2.2
          rw [HR2.out.tb, HbB.out] at c2
          have HCo := hid (countOf_walk HR2.out.pm.bm.gm o)
          obtain ⟨cn, hcn⟩ : ∃ c, p.1.cnt o = c := ⟨_, rfl⟩
          rw [hcn] at HCo
          have Hcn := hid hcn
          clear hcn
          have ii : (i : Int) < (n : Int) := by omega
          go_wp2_with fail
          refine HCo.out.mono ?_
          rintro e3 w3 ⟨rfl, rfl⟩
          clear HCo cg' dk
          by_cases hc0 : cn = 0
          · subst hc0
            have hsz := HR2.out.rp.ok.sz Hoin.out.1 Hoin.out.2
            have HFr := hid (rfree_walk HR2.out.pm.bm.gm (offA_in Hoin.out.1) rfl hsz.1 (by have h1 := HR2.out.rp.d; have h2 := Hd.out.1; have h3 := HN.out.2; have h4 : k * N ≤ 4 * N := Nat.mul_le_mul_right _ hk; omega))
            clear hsz
            go_wp2_with fail
            refine HFr.out.mono ?_
            rintro e5 w5 ⟨rfl, L5, ρ5, hm5, hs5, hf5⟩
            have HM5 := hid (HR2.out.pm.ground hm5 hs5 hf5)
            have HF5 := hid (HR2.out.fr.trans (hf5.mono (fun c => zX_g)))
            have HS5 := hid (HR2.out.sm.trans hs5)
            clear HFr hm5 hs5 hf5 c2
            obtain ⟨a6, q6, hV6⟩ := (HM5.out.hm.rw 6 (by decide)).shape
            obtain ⟨n6, hn6⟩ : ∃ n, (p.2 6).length = n := ⟨_, rfl⟩
            rw [hn6] at hV6
            have c6 := HM5.out.hcell (i := 6) (by decide)
            rw [hV6] at c6
            have HV6 := hid hV6
            have Hn6 := hid hn6
            clear hV6 hn6
            go_wp2_with (at_builtin; refine stopHere ?_)
            intro _
            obtain ⟨wf, hwf⟩ : ∃ wf, w5.alloc (.cells #[.int .u64 (o : Int)] 48) = wf := ⟨_, rfl⟩
            have HBf : Hid (Below w5.heap.size w5 wf) := hid (by rw [← hwf]; exact nbel w5 _)
            have HNw : Hid (∀ ad, some (⟨w5.heap.size, 0, none⟩ : Addr) = some ad → ∀ j u, ([o].flatMap rtA.f)[j]? = some u → wf.cell? (ad.add j) = some u) := hid (by rw [← hwf]; exact newX rtA w5 o _ rfl)
            (try simp only [hwf])
            clear hwf c6
            have HHf := hid (HM5.out.below HBf.out)
            have hrf := HHf.out.hm.rw 6 (by decide)
            rw [HV6.out] at hrf
            refine wpList_app_x okA rfl _ _ hrf rfl [o] rfl (some ⟨w5.heap.size, 0, none⟩) 1 1 rfl rfl (fun h => by cases h) HNw.out (by have h1 := HR2.out.rp.f; have h2 := Hd.out.2; have h3 := HN.out.2; have h4 : k * N ≤ 4 * N := Nat.mul_le_mul_right _ hk; show ((p.2 6).length + 1) * 8 ≤ _; omega) ?_
            intro v8 w8 ρ8 hr8 hf8 _ _
            obtain ⟨a8, k8, h8⟩ := hr8.out.shape
            rw [List.length_append, List.length_singleton, Hn6.out] at h8
            subst h8
            have HM8 := hid (HHf.out.app (by decide) hf8.out hr8.out)
            have hk8 : w8.heap[hB]? = wf.heap[hB]? := hf8.out.blk _ HHf.out.hm.bl.lt (by rw [HHf.out.hm.ro]; rfl)
            have c8 : w8.cell? ⟨hB, 6, none⟩ = some (.slice a6 n6 q6) := by rw [World.cell?_of_block hk8, ← HV6.out]; exact HHf.out.hcell (by decide)
            have f8 : w8.frozen? ⟨hB, 6, none⟩ = false := by rw [World.frozen?_of_block hk8]; exact HHf.out.hm.bl.frozen _
            have HE : Hid (∃ L' V' ρ', RpM w ρ L T hB G hv (clrF B k) (k * N + (i + 1)) (reaps (reapK B (G, hv) k) ((B.fresh k).take (i + 1))) L' T1 V' ρ' (w8.setCell ⟨hB, 6, none⟩ (.slice a8 (n6 + 1) k8))) := hid (by
              have hst := HR2.out.rp.step o
              have he : reap1 p o = (freeG p.1 o, hput p.2 6 o) := by unfold reap1; rw [if_pos Hcn.out]
              rw [he] at hst
              rw [Htk.out, he]
              exact ⟨L5, _, ρ8, HM8.out.1, HS5.out, HR2.out.tb, HR2.out.tl, (HF5.out.trans (Fr.below HBf.out)).trans (HM8.out.2.mono (fun c => zX_app (by decide))), hst⟩)
            clear hrf hr8 hf8 hk8 HNw HHf HBf HM5 HF5 HM8 HR2
            go_wp2
            exact ⟨⟨i + 1, by omega, by go_num, HE⟩, by simp [intOf]; omega⟩
          · have dc : ((cn : Int) == 0) = false := by simp; omega
            have HE : Hid (∃ L' V' ρ', RpM w ρ L T hB G hv (clrF B k) (k * N + (i + 1)) (reaps (reapK B (G, hv) k) ((B.fresh k).take (i + 1))) L' T1 V' ρ' w3) := hid (by
              have hst := HR2.out.rp.step o
              have he : reap1 p o = p := by unfold reap1; rw [if_neg (by rw [Hcn.out]; exact hc0)]
              rw [he] at hst
              rw [Htk.out, he]
              exact ⟨L2, V2, ρ2, HR2.out.pm, HR2.out.sm, HR2.out.tb, HR2.out.tl, HR2.out.fr, hst⟩)
            clear HR2 c2
            go_wp2
            exact ⟨⟨i + 1, by omega, by go_num, HE⟩, by simp [intOf]; omega⟩
        · have dk : decide ((i : Int) < (n : Int)) = false := decide_eq_false (by omega)
          have hin' : i = n := by omega
          rw [hin', List.take_of_length_le (by rw [Hn.out]; exact Nat.le_refl _), ← reapK_s] at HR2
          have c3 := HR2.out.pm.bm.fcell hk4
          rw [HV.out, HR2.out.tb, HbB.out] at c3
          have f3 := HR2.out.pm.bm.bb.frozen (3 + k * 69 + 68)
          rw [HR2.out.tb, HbB.out] at f3
          have hrow := HR2.out.pm.bm.fr k hk4
          rw [HV.out] at hrow
          have hcap := hrow.cap.1
          have icap : (q : Int) ≤ 9223372036854775807 := by unfold maxLen at hcap; omega
          have hcut := hrow.cut (fun _ => rfl) (j := 0) (Nat.zero_le _)
          have HE : Hid (∃ L' T' V' ρ', RpM w ρ L T hB G hv (clrF B (k + 1)) ((k + 1) * N) (reapK B (G, hv) (k + 1)) L' T' V' ρ' (wr.setCell ⟨bB, 3 + k * 69 + 68, none⟩ (.slice a 0 q))) := hid (by
            have hs := HR2.out.pm.bm.setF hk4 (w' := wr) (ρ' := ρ2) (Fr.refl _ _ _) hcut
            rw [← HR2.out.tb.trans HbB.out]
            refine ⟨L2, { T1 with fv := fup T1.fv k (.slice a 0 q) }, V2, ρ2, ⟨?_, HR2.out.pm.hm.fr hs.2 (by show (40 == 16 + k || 40 == 12) = false; simp; omega) (fun j hj => by show (41 + j == 16 + k || 41 + j == 12) = false; simp; omega)⟩, HR2.out.sm, HR2.out.tb, HR2.out.tl, HR2.out.fr.trans (hs.2.mono (fun c => zX_f hk4)), ?_⟩
            · rw [← clrF_s]
              exact hs.1
            · have h1 := HR2.out.rp
              have h2 : k * N + n ≤ (k + 1) * N := by rw [Nat.add_mul, Nat.one_mul]; omega
              exact ⟨h1.ok, by have := h1.d; omega, h1.c, h1.p, h1.e, h1.k, by have := h1.f; omega⟩)
          clear hrow hcut HR2 hin' hcap
          go_wp2
          exact ⟨⟨k + 1, by omega, by go_num, HE⟩, by simp [intOf]; omega⟩
    · as_aux_lemma =>
      have dk : decide ((k : Int) < 4) = false := decide_eq_false (by omega)
      obtain rfl : k = 4 := by omega
      have HR : Hid (∃ L' T' V' ρ', RpM w ρ L T hB G hv (clrF B 4) (4 * N) (reapK B (G, hv) 4) L' T' V' ρ' wr) := hid ⟨L1, T1, V1, ρ1, HR1.out⟩
      clear HR1
      go_wp2
      exact bodyPost_end (v := .tuple #[]) (by simp [results, Try.results77, go_sem]) rfl ⟨rfl, HR.out⟩
end
end Go.Proofs.Qxb6500888a
