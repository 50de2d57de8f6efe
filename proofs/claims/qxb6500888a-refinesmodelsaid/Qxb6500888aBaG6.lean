/- The ground: Step. -/
import Derived.Test.Qxb6500888aBaG5
import Derived.WalkLawsBesides
namespace Go.Proofs.Qxb6500888a
open Go.RowKit
set_option linter.unusedSimpArgs false
set_option linter.unusedVariables false

/-- What the first i fields of an object hold, Nil left out. -/
def refP (G : GS) (a i : Nat) : List Nat := ((List.range i).map fun j => G.word (offA a + 1 + j)).filter fun x => decide (x ≠ 0)
def rfOf (G : GS) (a : Nat) : Nat := ((G.head a).getD (0, 0)).2
def refL (G : GS) (a : Nat) : List Nat := refP G a (rfOf G a)
theorem refP_0 (G : GS) (a : Nat) : refP G a 0 = [] := rfl
theorem refP_s (G : GS) (a i : Nat) : refP G a (i + 1) = refP G a i ++ (if G.word (offA a + 1 + i) = 0 then [] else [G.word (offA a + 1 + i)]) := by
  unfold refP
  rw [List.range_succ, List.map_append, List.filter_append]
  congr 1
  by_cases h : G.word (offA a + 1 + i) = 0
  · simp [h]
  · simp [h]
theorem refP_len (G : GS) (a i : Nat) : (refP G a i).length ≤ i := by
  unfold refP
  refine Nat.le_trans (List.length_filter_le _ _) ?_
  simp
/-- One more waiting decrement for each of a list. -/
def addP (p : Nat → Nat) (l : List Nat) : Nat → Nat := l.foldl (fun p r => fup p r (p r + 1)) p
theorem addP_nil (p : Nat → Nat) : addP p [] = p := rfl
theorem addP_app (p : Nat → Nat) (l m : List Nat) : addP p (l ++ m) = addP (addP p l) m := List.foldl_append
theorem addP_one (p : Nat → Nat) (r : Nat) : addP p [r] = fup p r (p r + 1) := rfl
theorem addP_count : ∀ (l : List Nat) (p : Nat → Nat) (a : Nat), addP p l a = p a + l.count a
  | [], p, a => by simp [addP]
  | r :: l, p, a => by
    show addP (fup p r (p r + 1)) l a = _
    rw [addP_count l, List.count_cons]
    by_cases h : a = r
    · subst h; rw [fup_self]; simp; omega
    · rw [fup_ne _ _ h]
      have : (r == a) = false := by simp; exact fun e => h e.symm
      rw [this]; simp
theorem addP_le (l : List Nat) (p : Nat → Nat) (a : Nat) : addP p l a ≤ p a + l.length := by
  rw [addP_count]
  have := List.count_le_length (a := a) (l := l)
  omega
def lessG (G : GS) (o : Nat) : GS := { G with pend := fup G.pend o (G.pend o - 1) }
def dropG (G : GS) (o : Nat) : GS :=
  if G.cnt o = 0 then { lessG G o with errs := G.errs + 1 }
  else if G.cnt o = 3 then lessG G o
  else if G.cnt o = 1 then freeG { lessG G o with pend := addP (lessG G o).pend (refL G o) } o
  else { lessG G o with cnt := fup G.cnt o (G.cnt o - 1) }
structure LeastP (p : Nat → Nat) (o : Nat) : Prop where
  at_ : p o ≠ 0
  le : ∀ a, p a ≠ 0 → o ≤ a
/-- No step of the ground runs out of the heap. -/
structure GOk (G : GS) : Prop where
  hd : ∀ a n q, G.head a = some (n, q) → 65536 ≤ a ∧ offA a + n < 32768 ∧ q ≤ n ∧ n ≤ 8192
  wd : ∀ i, i < 32768 → G.word i = 0 ∨ (65536 ≤ G.word i ∧ G.word i < 98304)
  pd : ∀ a, G.pend a ≠ 0 → 65536 ≤ a ∧ a < 98304
  ct : ∀ a, G.cnt a ≤ 3
/-- Its numbers are small. -/
structure GB (G : GS) (N : Nat) : Prop where
  calls : G.calls.length ≤ N
  deaths : G.deaths.length ≤ N
  pend : ∀ a, G.pend a ≤ N
  errs : G.errs ≤ N
theorem GB.mono {G : GS} {N M : Nat} (h : GB G N) (hm : N ≤ M) : GB G M := ⟨Nat.le_trans h.calls hm, Nat.le_trans h.deaths hm, fun a => Nat.le_trans (h.pend a) hm, Nat.le_trans h.errs hm⟩
theorem offA_in {a : Nat} (h : 65536 ≤ a) : 65536 + offA a = a := by unfold offA; omega
theorem GOk.sz {G : GS} (h : GOk G) {a : Nat} (h1 : 65536 ≤ a) (h2 : a < 98304) : offA a + szOf G a < 32768 ∧ rfOf G a ≤ szOf G a ∧ szOf G a ≤ 8192 := by
  have ho := offA_in h1
  cases e : G.head a with
  | none =>
    have e1 : szOf G a = 0 := by unfold szOf; rw [e]; rfl
    have e2 : rfOf G a = 0 := by unfold rfOf; rw [e]; rfl
    rw [e1, e2]
    omega
  | some p =>
    obtain ⟨n, q⟩ := p
    have e1 : szOf G a = n := by unfold szOf; rw [e]; rfl
    have e2 : rfOf G a = q := by unfold rfOf; rw [e]; rfl
    have := h.hd a n q e
    rw [e1, e2]
    exact ⟨this.2.1, this.2.2.1, this.2.2.2⟩
/-- What Step answers. -/
def StP (w : World) (ρ : Rl) (L : GL) (G : GS) (e : Ending) (w' : World) : Prop :=
  ((∀ a, G.pend a = 0) ∧ e = .returned (.bool false) ∧ GP w ρ L G w') ∨ ∃ o, LeastP G.pend o ∧ e = .returned (.bool true) ∧ GP w ρ L (dropG G o) w'
/-- The search for the lowest address. -/
structure SkS (w : World) (ρ : Rl) (L : GL) (G : GS) (r pick : Nat) (F : List Ent) (T : List Nat) (wr : World) : Prop where
  gm : GM wr ρ L G
  fr : Fr gX ρ w ρ wr
  pn : PN wr L.mP F
  it : IT wr r L.mP F T
  fk : ∀ a, (∃ e ∈ F, e.k = a) ↔ G.pend a ≠ 0
  r0 : ρ r = 0
  rw : w.heap.size ≤ r
  pk : (pick = 0 ∧ ∀ a, G.pend a ≠ 0 → a ∈ T) ∨ (pick ≠ 0 ∧ G.pend pick ≠ 0 ∧ ∀ a, G.pend a ≠ 0 → a ∉ T → pick ≤ a)
section
variable {w : World} {ρ : Rl} {L : GL} {G : GS}
/-- One waiting decrement less. -/
theorem GMh.lessP (h : GM w ρ L G) {o x : Nat} (hx : G.pend o = x + 1) : ∃ w1, (Instr.mapUpdate 71 (.map (some L.mP)) (.int .u64 (o : Int)) (.int .i64 (x : Int))).run Try.prog w = .ok () w1 ∧ w1.cell? ⟨L.cB, 3, none⟩ = some (.map (some L.mP)) ∧
    (Instr.lookup 71 (.map (some L.mP)) (.int .u64 (o : Int)) false).run Try.prog w1 = .ok (.int .i64 (x : Int)) w1 ∧ (x ≠ 0 → GM w1 ρ L (lessG G o) ∧ Fr gX ρ w ρ w1) ∧
    (x = 0 → ∃ w2, (Builtin.delete_ #[71, 48] 0 #[.map (some L.mP), .int .u64 (o : Int)]).run Try.prog w1 = .ok (.tuple #[]) w2 ∧ GM w2 ρ L (lessG G o) ∧ Fr gX ρ w ρ w2) := by
  obtain ⟨w1, g1, g2, g3⟩ := (h.mp rfl).put (P := Try.prog) (mt := 71) (kt := 48) (vt := 3) Try.underlying71 Try.underlying48 o (.int .i64 (x : Int))
  have hl := g2.look (P := Try.prog) (mt := 71) (kt := 48) (vt := 3) Try.underlying71 Try.underlying48 o zero_int
  rw [fup_self] at hl
  have e1 : ∀ k, (lessG G o).pend = fup G.pend o k ↔ fup G.pend o x = fup G.pend o k := fun k => by unfold lessG; rw [hx]; rfl
  have hless : (lessG G o).pend = fup G.pend o x := (e1 x).2 rfl
  have hG : lessG G o = { G with pend := fup G.pend o x } := by unfold lessG; rw [hx]; rfl
  have hf : Fr (fun r => r == 9) ρ w ρ w1 := Fr.upd g3 (by show (ρ L.mP == 9) = true; rw [h.r9]; rfl)
  refine ⟨w1, g1, ?_, hl, fun h0 => ?_, fun h0 => ?_⟩
  · have := hf.keep (h.cb rfl) h.r6 rfl
    exact this.cell 3
  · rw [ctF_up _ _ _ h0] at g2
    rw [hG]
    exact h.setP g3 g2
  · obtain ⟨w2, k1, k2, k3⟩ := g2.del (P := Try.prog) (mt := 71) (kt := 48) (vt := 3) Try.underlying71 Try.underlying48 o 0
    rw [fup_fup, ctF_no] at k2
    refine ⟨w2, k1, ?_⟩
    rw [hG, h0]
    exact h.setP (g3.trans k3) k2
set_option maxRecDepth 1000000 in
set_option maxHeartbeats 8000000 in
theorem step_walk (h : GM w ρ L G) (hok : GOk G) (hB : GB G 900000000000) : Calls Try.prog 45 #[.pointer (some ⟨L.cB, 0, none⟩)] w fun e w' => StP w ρ L G e w' := by
  have HH := hid h
  have HO := hid hok
  have HB := hid hB
  have c3 := h.ccells.2.2.2.1
  obtain ⟨F, q1, q2, q3⟩ := h.mp rfl
  have HQ1 := hid q1
  have HQ3 : Hid (∀ a, (∃ e ∈ F, e.k = a) ↔ G.pend a ≠ 0) := hid (fun a => by
    constructor
    · rintro ⟨e, he, rfl⟩ h0
      have := q2 e he
      unfold ctF at this
      rw [if_pos h0] at this
      cases this
    · intro h0
      exact q3 a (.int .i64 (G.pend a : Int)) (by unfold ctF; rw [if_neg h0]))
  obtain ⟨r, hr0⟩ : ∃ r, w.heap.size = r := ⟨_, rfl⟩
  have Hr0 : Hid (ρ r = 0) := hid (by
    apply Classical.byContradiction
    intro hne
    have := h.dom r hne
    omega)
  have Hr := hid hr0
  clear h hok hB q1 q2 q3
  go_enter Try.func45, Try.ntmps45
  go_wp2_with (at_range; refine wpList_range_pn rfl (.tmp 12) 71 rfl Try.underlying71 L.mP F rfl HQ1.out ?_; intro w2 hit2 hbe2 hsz2)
  go_frame
  have HS0 : Hid (SkS w ρ L G r 0 F (F.map (·.k)) w2) := hid ⟨HH.out.below hbe2, Fr.below hbe2, HQ1.out.below hbe2, by rw [← hr0]; exact hit2, HQ3.out, Hr0.out, by omega, .inl ⟨rfl, fun a ha => by
    obtain ⟨e, he, rfl⟩ := (HQ3.out a).2 ha
    exact List.mem_map.2 ⟨e, he, rfl⟩⟩⟩
  clear hit2 hbe2 hsz2 c3 HQ1 HQ3
  simp only [hr0]
  clear hr0 Hr0
  go_loopw [3] (fun v wr => ∃ pick T, v = .int .u64 ((pick : Nat) : Int) ∧ Hid (SkS w ρ L G r pick F T wr)) (fun _ wr => World.rangeLeft wr L.mP r)
  case atStart => exact ⟨0, _, rfl, HS0⟩
  case round =>
    clear HS0
    obtain ⟨pick, T, rfl, HS⟩ := hrel
    have Hpn : Hid (PN wr L.mP F) := hid HS.out.pn
    have Hit : Hid (IT wr r L.mP F T) := hid HS.out.it
    go_upto_region 3 with fail
    refine wp_region_lit ?_
    refine wpList_next_pn rfl (.tmp 13) rfl r L.mP F T rfl Hpn.out Hit.out ?_ ?_
    · intro hT
      by_cases hp0 : pick = 0
      · as_aux_lemma =>
        subst hp0
        have HF : Hid (StP w ρ L G (.returned (.bool false)) wr) := hid (.inl ⟨fun a => by
          rcases HS.out.pk with ⟨_, h1⟩ | ⟨h1, _⟩
          · by_cases hc : G.pend a = 0
            · exact hc
            · have := h1 a hc; rw [hT] at this; cases this
          · exact absurd rfl h1, rfl, L, ρ, HS.out.gm, GL.Same.refl _, HS.out.fr⟩)
        clear HS Hpn Hit
        go_frame
        go_wp2
        go_ret
        exact HF.out
      · have dp : ((pick : Int) == 0) = false := by simp; omega
        have hpk : LeastP G.pend pick := by
          rcases HS.out.pk with ⟨h1, _⟩ | ⟨_, h2, h3⟩
          · exact absurd h1 hp0
          · exact ⟨h2, fun a ha => h3 a ha (by rw [hT]; simp)⟩
        have HP := hid hpk
        have HM1 := hid HS.out.gm
        have HF1 := hid HS.out.fr
        clear HS Hpn Hit hT hpk hp0
        go_frame
        have hin := HO.out.pd pick HP.out.at_
        have Hin := hid hin
        obtain ⟨x, hx⟩ : ∃ x, G.pend pick = x + 1 := ⟨G.pend pick - 1, by have := HP.out.at_; omega⟩
        obtain ⟨w1, hr1, c31, hl1, hA, hD⟩ := HM1.out.lessP hx
        have HA := hid hA
        have HD := hid hD
        have c3 := HM1.out.ccells.2.2.2.1
        have hl0 := HM1.out.lookP pick
        obtain ⟨y, hy⟩ : ∃ y, G.pend pick = y := ⟨_, rfl⟩
        rw [hy] at hl0 hx
        have hyx : (y : Int) - 1 = (x : Int) := by omega
        have hyb : (y : Int) ≤ 900000000000 := by have := HB.out.pend pick; omega
        have hpk0 : (pick : Int) ≠ 0 := by omega
        clear hA hD hx hy hin HM1
        go_upto_if 41 with fail
        clear hr1 hl0 hyx c3 dp
        go_cut [] from 42 to 46 (fun wc => Hid (GM wc ρ L (lessG G pick)) ∧ Hid (Fr gX ρ w ρ wc))
        case first =>
          by_cases hx0 : x = 0
          · as_aux_lemma =>
            have dx : ((x : Int) == 0) = true := by simp; omega
            obtain ⟨w2, hr2, hm2, hf2⟩ := HD.out hx0
            have HR := hid (And.intro (hid hm2) (hid (HF1.out.trans hf2)))
            clear hm2 hf2 HA HD
            go_wp2
            go_meet
            exact HR.out
          · as_aux_lemma =>
            have dx : ((x : Int) == 0) = false := by simp; omega
            have HR := hid (And.intro (hid (HA.out hx0).1) (hid (HF1.out.trans (HA.out hx0).2)))
            clear HA HD
            go_wp2
            go_meet
            exact HR.out
        case rest =>
          clear HA HD c31 hl1 HF1
          obtain ⟨HM2, HF2⟩ := hcut
          have c2 := HM2.out.ccells.2.2.1
          have hlc := HM2.out.lookC pick
          obtain ⟨c, hc⟩ : ∃ c, G.cnt pick = c := ⟨_, rfl⟩
          rw [show (lessG G pick).cnt pick = c from hc] at hlc
          have Hc := hid hc
          have hc3 : c ≤ 3 := by rw [← hc]; exact HO.out.ct pick
          clear hc
          by_cases hc0 : c = 0
          · subst hc0
            as_aux_lemma =>
            have c6 := HM2.out.ccells.2.2.2.2.2.2
            rw [show (lessG G pick).errs = G.errs from rfl] at c6
            have f6 := (HM2.out.cb rfl).frozen 6
            have hE := HM2.out.setE (G.errs + 1)
            have hbe : (G.errs : Int) ≤ 900000000000 := by have := HB.out.errs; omega
            have HR : Hid (StP w ρ L G (.returned (.bool true)) (wc.setCell ⟨L.cB, 6, none⟩ (.int .i64 ((G.errs : Int) + 1)))) := hid (.inr ⟨pick, HP.out, rfl, L, ρ, by
              unfold dropG
              rw [if_pos Hc.out]
              exact hE.1, GL.Same.refl _, HF2.out.trans hE.2⟩)
            clear hE HM2 HF2
            generalize G.errs = ne at c6 HR hbe
            go_wp2
            go_ret
            exact HR.out
          by_cases hc3' : c = 3
          · subst hc3'
            as_aux_lemma =>
            have HR : Hid (StP w ρ L G (.returned (.bool true)) wc) := hid (.inr ⟨pick, HP.out, rfl, L, ρ, by
              unfold dropG
              rw [if_neg (by rw [Hc.out]; decide), if_pos Hc.out]
              exact HM2.out, GL.Same.refl _, HF2.out⟩)
            clear HM2 HF2
            go_wp2
            go_ret
            exact HR.out
          by_cases hc1 : c = 1
          · subst hc1
            have hsz := HO.out.sz Hin.out.1 Hin.out.2
            have Hsz := hid hsz
            obtain ⟨n, hn⟩ : ∃ n, szOf G pick = n := ⟨_, rfl⟩
            obtain ⟨q, hq⟩ : ∃ q, rfOf G pick = q := ⟨_, rfl⟩
            have Hnq := hid (And.intro hn hq)
            have hsh : (G.head pick).getD (0, 0) = (n, q) := Prod.ext hn hq
            have H1 := hid (shapeOf_walk HM2.out pick)
            rw [show (lessG G pick).head = G.head from rfl, hsh] at H1
            unfold shV at H1
            dsimp only at H1
            generalize (G.head pick).isSome = bb at H1
            have c0 := HM2.out.ccells.1
            have hq1 : q ≤ 8192 := by omega
            clear hsz hn hq hsh
            go_wp2_with fail
            refine H1.out.mono ?_
            rintro e4 w4 ⟨rfl, hb4⟩
            have HM4 := hid (HM2.out.below hb4)
            have HF4 := hid (HF2.out.trans (Fr.below hb4))
            clear H1 c0 hb4 HM2 HF2 c2 hlc
            obtain ⟨g, hg⟩ : ∃ g, w4.heap.size = g := ⟨_, rfl⟩
            go_upto_region 19 with fail
            obtain ⟨w5, hw5⟩ : ∃ w5, w4.alloc (.cells #[.int .i64 (n : Int), .int .i64 (q : Int)] 73) = w5 := ⟨_, rfl⟩
            have HN5 : Hid (Blk w5 g 73 [.int .i64 (n : Int), .int .i64 (q : Int)]) := hid (by
              rw [← hw5, ← hg]
              exact Blk.new w4 [.int .i64 (n : Int), .int .i64 (q : Int)] 73)
            have HB5 : Hid (Below w4.heap.size w4 w5) := hid (by
              rw [← hw5]
              exact nbel w4 _)
            (try simp only [hw5])
            have Hg0 : Hid (ρ g = 0) := hid (by
              by_cases e : ρ g = 0
              · exact e
              · have := HM4.out.dom g e
                omega)
            have HM5 := hid (HM4.out.below HB5.out)
            have HF5 := hid (HF4.out.trans (Fr.below HB5.out))
            clear hw5 hg HM4 HF4 HB5
            go_wp2_with fail
            go_loopw [7] (fun v wr => ∃ i : Nat, i ≤ q ∧ v = .int .i64 (i : Int) ∧ Hid (GM wr ρ L { lessG G pick with pend := addP (lessG G pick).pend (refP G pick i) }) ∧ Hid (Fr gX ρ w ρ wr) ∧ Hid (Blk wr g 73 [.int .i64 (n : Int), .int .i64 (q : Int)])) (fun v _ => q - (intOf v).toNat)
            case atStart => exact ⟨0, by omega, rfl, HM5, HF5, HN5⟩
            case round =>
              obtain ⟨i, hi, rfl, HM6, HF6, HN6⟩ := hrel
              clear HM5 HF5 HN5
              have cq := HN6.out.cell 1
              simp only [List.getElem?_cons_zero, List.getElem?_cons_succ] at cq
              by_cases hlt : i < q
              · have dk : decide ((i : Int) < (q : Int)) = true := decide_eq_true (by omega)
                go_upto_region 22 with fail
                clear cq dk
                obtain ⟨X, W, HTT, H0, hne, HC⟩ := class_below wr
                have c1 : ∀ y, (W y).cell? ⟨L.cB, 0, none⟩ = some (.pointer (some ⟨L.hB, 0, none⟩)) := fun y => (HM6.out.below (HTT.out y)).ccells.1
                obtain ⟨s, hs⟩ : ∃ s, offA pick = s := ⟨_, rfl⟩
                have hsp := offA_in Hin.out.1
                have hb1 : s + n < 32768 := by rw [← hs, ← Hnq.out.1]; exact Hsz.out.1
                have hb2 : q ≤ n := by rw [← Hnq.out.1, ← Hnq.out.2]; exact Hsz.out.2.1
                rw [hs] at hsp
                obtain ⟨fa, hfa⟩ : ∃ fa, pick + 1 + i = fa := ⟨_, rfl⟩
                have HFA : Hid (∀ w, Calls Try.prog 35 #[.int .u64 (pick : Int), .int .i64 (i : Int)] w fun e w' => e = .returned (.int .u64 (fa : Int)) ∧ w' = w) := hid (fun w => field_walk hfa (by omega) (by omega) w)
                have HRA : Hid (∀ y, Calls Try.prog 26 #[.pointer (some ⟨L.hB, 0, none⟩), .int .u64 (fa : Int)] (W y) fun e w' => e = .returned (.int .u64 (G.word (s + 1 + i) : Int)) ∧ Below (W y).heap.size (W y) w') := hid (fun y => refAt_walk (HM6.out.below (HTT.out y)) (a := fa) (s := s + 1 + i) (by omega) (by omega))
                have HRp : Hid (refP G pick (i + 1) = refP G pick i ++ (if G.word (s + 1 + i) = 0 then [] else [G.word (s + 1 + i)])) := hid (by rw [refP_s, hs])
                clear hsp hfa hs
                generalize G.word (s + 1 + i) = v at HRA HRp
                refine wp_region_class W (by kernel_rfl) (by kernel_rfl) H0.out ?_
                repeat (go_big_quiet_step (first
                  | (go_at_call 35; exact Calls.class_same (HFA.out _))
                  | (go_at_call 26; exact Calls.class_of HC.out (HRA.out _))))
                refine wpQuiet_nil ?_
                intro z
                have HZ := hid (HTT.out z)
                generalize W z = wz at HZ ⊢
                have HM7 := hid (HM6.out.below HZ.out)
                have HF7 := hid (HF6.out.trans (Fr.below HZ.out))
                have HN7 := hid (HN6.out.below HZ.out)
                clear c1 H0 HTT HC hne HFA HRA HM6 HF6 HN6
                by_cases hv : v = 0
                · subst hv
                  rw [if_pos rfl, List.append_nil] at HRp
                  rw [← HRp.out] at HM7
                  go_wp2
                  exact ⟨⟨i + 1, by omega, by go_num, HM7, HF7, HN7⟩, by simp [intOf]; omega⟩
                · have dv : ((v : Int) != 0) = true := by simp; omega
                  rw [if_neg hv] at HRp
                  have c3 := HM7.out.ccells.2.2.2.1
                  have hlp := HM7.out.lookP v
                  obtain ⟨y, hy⟩ : ∃ y, addP (lessG G pick).pend (refP G pick i) v = y := ⟨_, rfl⟩
                  rw [show GS.pend _ v = y from hy] at hlp
                  have hyb : (y : Int) ≤ 900000008192 := by
                    have h1 := addP_le (refP G pick i) (lessG G pick).pend v
                    have h2 := refP_len G pick i
                    have h3 : (lessG G pick).pend v ≤ 900000000000 := by
                      show fup G.pend pick (G.pend pick - 1) v ≤ _
                      by_cases e : v = pick
                      · subst e; rw [fup_self]; have := HB.out.pend v; omega
                      · rw [fup_ne _ _ e]; exact HB.out.pend v
                    omega
                  obtain ⟨w8, hr8, hm8, hf8⟩ := HM7.out.putP v (y + 1) (by omega)
                  have HM8 : Hid (GM w8 ρ L { lessG G pick with pend := addP (lessG G pick).pend (refP G pick (i + 1)) }) := hid (by
                    rw [HRp.out, addP_app, addP_one, hy]
                    exact hm8)
                  have HF8 := hid (HF7.out.trans hf8)
                  have HN8 := hid (hf8.keep HN7.out Hg0.out rfl)
                  have hr8' : (Instr.mapUpdate 71 (.map (some L.mP)) (.int .u64 (v : Int)) (.int .i64 ((y : Int) + 1))).run Try.prog wz = .ok () w8 := hr8
                  clear hm8 hf8 hr8 hy HM7 HF7 HN7
                  go_wp2
                  exact ⟨⟨i + 1, by omega, by go_num, HM8, HF8, HN8⟩, by simp [intOf]; omega⟩
              · have dk : decide ((i : Int) < (q : Int)) = false := decide_eq_false (by omega)
                rw [show i = q by omega] at HM6
                have HFr := hid (rfree_walk HM6.out (a := pick) (s := offA pick) (n := n) (offA_in Hin.out.1) Hnq.out.1 (by have := Hsz.out.1; rw [Hnq.out.1] at this; exact this) (by have := HB.out.deaths; show G.deaths.length ≤ _; omega))
                go_wp2_with fail
                refine HFr.out.mono ?_
                rintro e9 w9 ⟨rfl, L9, ρ9, hm9, hs9, hf9⟩
                have HR : Hid (StP w ρ L G (.returned (.bool true)) w9) := hid (.inr ⟨pick, HP.out, rfl, L9, ρ9, by
                  unfold dropG
                  rw [if_neg (by rw [Hc.out]; decide), if_neg (by rw [Hc.out]; decide), if_pos Hc.out]
                  unfold refL
                  rw [Hnq.out.2]
                  exact hm9, hs9, HF6.out.trans hf9⟩)
                clear hm9 hs9 hf9 HFr HM6 HF6 HN6
                go_wp2
                go_ret
                exact HR.out
          · obtain rfl : c = 2 := by omega
            as_aux_lemma =>
            obtain ⟨w4, hr4, hm4, hf4⟩ := HM2.out.putC pick 1 (by decide)
            have HR : Hid (StP w ρ L G (.returned (.bool true)) w4) := hid (.inr ⟨pick, HP.out, rfl, L, ρ, by
              unfold dropG
              rw [if_neg (by rw [Hc.out]; decide), if_neg (by rw [Hc.out]; decide), if_neg (by rw [Hc.out]; decide), Hc.out]
              exact hm4, GL.Same.refl _, HF2.out.trans hf4⟩)
            have hr4' : (Instr.mapUpdate 71 (.map (some L.mC)) (.int .u64 (pick : Int)) (.int .i64 1)).run Try.prog wc = .ok () w4 := hr4
            have hlc' : (Instr.lookup 71 (.map (some L.mC)) (.int .u64 (pick : Int)) false).run Try.prog wc = .ok (.int .i64 2) wc := hlc
            clear hm4 hf4 HM2 HF2 hr4 hlc
            go_wp2
            go_ret
            exact HR.out
    · as_aux_lemma =>
      intro e w2 he heT hpn2 hit2 hu2 hsz2 hen2
      have hce : G.pend e.k ≠ 0 := (HS.out.fk e.k).1 ⟨e, he, rfl⟩
      have hs := HO.out.pd e.k hce
      have HF2' : Hid (Fr (fun c => c == 0) ρ wr ρ w2) := hid (Fr.upd hu2 (by show (ρ r == 0) = true; rw [HS.out.r0]; rfl))
      have HM2 : Hid (GM w2 ρ L G) := hid ((GMh.but HS.out.gm HF2'.out).full (fun c hc => by
        show (c == 0) = false
        unfold gX at hc
        simp at hc ⊢
        omega))
      have HF2 : Hid (Fr gX ρ w ρ w2) := hid ⟨hu2.os.trans HS.out.fr.os, hu2.tape.trans HS.out.fr.tape, hu2.output.trans HS.out.fr.output, Nat.le_trans HS.out.fr.size hu2.size, fun _ _ => rfl, fun _ _ => rfl, fun g hg h0 => (hu2.block g (Nat.lt_of_lt_of_le hg HS.out.fr.size) (by have := HS.out.rw; omega)).trans (HS.out.fr.blk g hg h0)⟩
      have HI2 := hid hit2
      have HP2 := hid hpn2
      have Hms : Hid (World.rangeLeft w2 L.mP r < World.rangeLeft wr L.mP r) := hid (by rw [hit2.left, Hit.out.left]; exact left_less he heT)
      obtain ⟨ek, hek⟩ : ∃ ek, e.k = ek := ⟨_, rfl⟩
      obtain ⟨ev, hev⟩ : ∃ ev, e.v = ev := ⟨_, rfl⟩
      rw [hek, hev] at hen2
      rw [hek] at HI2 hce hs
      rw [hek, hev]
      have hk0 : ek ≠ 0 := by omega
      have Hce := hid hce
      have HNx : Hid (∀ p, ((p = pick ∧ p ≠ 0 ∧ pick ≤ ek) ∨ (p = ek ∧ (pick = 0 ∨ ek ≤ pick))) → SkS w ρ L G r p F (T.filter fun k => decide (k ≠ ek)) w2) := hid (fun p hp => ⟨HM2.out, HF2.out, HP2.out, HI2.out, HS.out.fk, HS.out.r0, HS.out.rw, by
        have hmem : ∀ a, a ∉ T.filter (fun k => decide (k ≠ ek)) → a = ek ∨ a ∉ T := fun a hn => by
          by_cases hae : a = ek
          · exact .inl hae
          · exact .inr (fun hT => hn (List.mem_filter.2 ⟨hT, decide_eq_true hae⟩))
        refine .inr ?_
        rcases hp with ⟨rfl, h0, hah⟩ | ⟨rfl, hor⟩
        · rcases HS.out.pk with ⟨h1, _⟩ | ⟨_, h2, h3⟩
          · exact absurd h1 h0
          · refine ⟨h0, h2, fun a ha hn => ?_⟩
            rcases hmem a hn with rfl | hn'
            · exact hah
            · exact h3 a ha hn'
        · refine ⟨hk0, Hce.out, fun a ha hn => ?_⟩
          rcases hmem a hn with rfl | hn'
          · exact Nat.le_refl _
          · rcases HS.out.pk with ⟨h1, h2⟩ | ⟨h1, h2, h3⟩
            · exact absurd (h2 a ha) hn'
            · rcases hor with h4 | h4
              · exact absurd h4 h1
              · exact Nat.le_trans h4 (h3 a ha hn')⟩)
      clear hce hs hek hev he heT hpn2 hit2 hu2 hsz2 HM2 HF2 HF2' HI2 HP2 HS Hpn Hit
      go_frame
      by_cases hp0 : pick = 0
      · subst hp0
        go_wp2
        exact ⟨⟨ek, _, rfl, hid (HNx.out ek (.inr ⟨rfl, .inl rfl⟩))⟩, Hms.out⟩
      have dp : ((pick : Int) == 0) = false := by simp; omega
      by_cases hlt : ek < pick
      · have dl : decide ((ek : Int) < (pick : Int)) = true := decide_eq_true (by omega)
        go_wp2
        exact ⟨⟨ek, _, rfl, hid (HNx.out ek (.inr ⟨rfl, .inr (by omega)⟩))⟩, Hms.out⟩
      · have dl : decide ((ek : Int) < (pick : Int)) = false := decide_eq_false (by omega)
        go_wp2
        exact ⟨⟨pick, _, rfl, hid (HNx.out pick (.inl ⟨rfl, hp0, by omega⟩))⟩, Hms.out⟩
end
end Go.Proofs.Qxb6500888a
