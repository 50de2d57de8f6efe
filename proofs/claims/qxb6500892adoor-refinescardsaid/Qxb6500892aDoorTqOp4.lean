/- Forget, Insert, Replace. -/
import Derived.Test.Qxb6500892aDoorTqOp3
namespace Go.Proofs.Qxb6500892aDoor
open Go.RowKit
set_option linter.unusedSimpArgs false
set_option linter.unusedVariables false

def DropS (g : Nat) (s : ES) (L : Nat → List Nat) (s' : ES) (L' : Nat → List Nat) : Prop := g < s.n ∧ s.whr g = 3 ∧ Fx s s' ∧ s'.whr = upd s.whr g 4 ∧ L' = upd (upd L 3 ((L 3).erase g)) 4 (g :: L 4)
def FgS (k : Nat) (B : Bool) (s : ES) (L : Nat → List Nat) (s' : ES) (L' : Nat → List Nat) : Prop := (B = false ∧ s' = s ∧ L' = L ∧ ∀ g, g < s.n → s.whr g = 3 → s.key g ≠ k) ∨ (B = true ∧ ∃ g, s.key g = k ∧ DropS g s L s' L')
/-- Where the key is. -/
inductive FdR (s : ES) (k : Nat) : Int → Prop
  | none (h : ∀ i, Hs s i → s.key i ≠ k) : FdR s k (-1)
  | live (i : Nat) (hi : i < s.slots) (hw : s.whr i = 1 ∨ s.whr i = 2) (hk : s.key i = k) : FdR s k (i : Int)
  | ghost (g : Nat) (hs : s.slots ≤ g) (hg : g < s.n) (hw : s.whr g = 3) (hk : s.key g = k) : FdR s k (g : Int)
section
variable {e gn gb : Nat} {w0 : World} {s : ES} {L C : Nat → List Nat} {w : World}
theorem find_ee (h : EE e gn gb w0 s L C w) (k : Nat) :
    Calls Tryd.prog 41 #[.pointer (some ⟨e, 0, none⟩), .int .u64 (k : Int)] w fun x w' => (∃ v : Int, x = .returned (.int .i32 v) ∧ FdR s k v) ∧ EE e gn gb w0 s L C w' ∧ Below w.heap.size w w' := by
  refine (find_si h.si k).mono ?_
  rintro x w' ⟨⟨v, rfl, hv⟩, h1, h2⟩
  refine ⟨⟨v, rfl, ?_⟩, ⟨h1.em, h1.u3, h.ei⟩, h2⟩
  rcases hv with ⟨rfl, h3⟩ | ⟨i, hi, hp, rfl, hk⟩
  · exact .none (fun i hi => h3 i hi.1 hi)
  · by_cases hs : i < s.slots
    · have h4 := h.ei.slot i hs
      have h5 := hp.2
      exact .live i hs (by omega) hk
    · have h4 := h.ei.gho i (by omega) hi
      have h5 := hp.2
      exact .ghost i (by omega) hi (by omega) hk
set_option maxRecDepth 100000 in
set_option maxHeartbeats 1000000 in
theorem forget_ee (h : EE e gn gb w0 s L C w) (k : Nat) :
    Calls Tryd.prog 34 #[.pointer (some ⟨e, 0, none⟩), .int .u64 (k : Int)] w fun y w' => ∃ B : Bool, y = .returned (.bool B) ∧ ∃ s' L' C', EE e gn gb w0 s' L' C' w' ∧ FgS k B s L s' L' := by
  have HF := hid (find_ee h k)
  have Hei := hid h.ei
  clear h
  go_enter Tryd.func34, Tryd.ntmps34
  go_wp2_with fail
  refine HF.out.mono ?_
  rintro x w1 ⟨⟨v, rfl, hv⟩, hE, _⟩
  have HE := hid hE
  clear hE HF
  cases hv with
  | none hn =>
    as_aux_lemma =>
    have HG : Hid (∃ B : Bool, false = B ∧ ∃ s' L' C', EE e gn gb w0 s' L' C' w1 ∧ FgS k B s L s' L') := hid ⟨false, rfl, s, L, C, HE.out, .inl ⟨rfl, rfl, rfl, fun g hg hw => hn g ⟨hg, .inr (.inr hw)⟩⟩⟩
    clear hn
    go_wp2
    go_ret
    obtain ⟨B, rfl, h2⟩ := HG.out
    exact ⟨false, rfl, h2⟩
  | live i hi hw hk =>
    as_aux_lemma =>
    have hib : i < 65536 := by have := Hei.out.s1; omega
    have HI := hid (isGhost_walk HE.out.em i (by omega))
    rw [decide_eq_false (show ¬ s.slots ≤ i by omega)] at HI
    have dv : ((i : Int) == -1) = false := by rw [beq_eq_false_iff_ne]; omega
    have HG : Hid (∃ s' L' C', EE e gn gb w0 s' L' C' w1 ∧ FgS k false s L s' L') := hid ⟨s, L, C, HE.out, .inl ⟨rfl, rfl, rfl, fun g hg hw3 e1 => by
      have := Hei.out.uq g i ⟨hg, .inr (.inr hw3)⟩ ⟨by rw [Hei.out.nn]; omega, by omega⟩ (e1.trans hk.symm)
      subst this
      omega⟩⟩
    clear hw hk
    go_wp2_with fail
    refine HI.out.mono ?_
    rintro x w2 ⟨rfl, rfl⟩
    go_wp2
    go_ret
    exact ⟨false, rfl, HG.out⟩
  | ghost g hs hg hw hk =>
    as_aux_lemma =>
    have hgb : g < 1000000 := by have := Hei.out.q.nb; omega
    have HI := hid (isGhost_walk HE.out.em g hgb)
    rw [decide_eq_true hs] at HI
    have dv : ((g : Int) == -1) = false := by rw [beq_eq_false_iff_ne]; omega
    have HD := hid (dropGhost_ee HE.out hg hw)
    have Hk := hid hk
    have Hw := hid hw
    clear hw hk
    go_wp2_with fail
    refine HI.out.mono ?_
    rintro x w2 ⟨rfl, rfl⟩
    go_wp2_with fail
    refine HD.out.mono ?_
    rintro x w3 ⟨rfl, s3, C3, h3, f3, r3⟩
    have HG : Hid (∃ s' L' C', EE e gn gb w0 s' L' C' w3 ∧ FgS k true s L s' L') := hid ⟨s3, _, C3, h3, .inr ⟨rfl, g, Hk.out, hg, Hw.out, f3, r3, rfl⟩⟩
    clear h3 f3 r3 HD
    go_wp2
    go_ret
    exact ⟨true, rfl, HG.out⟩
end
/-- What Insert does. -/
inductive InsS (x : Int) (k : Nat) (B : Bool) (s : ES) (L : Nat → List Nat) : Nat → ES → (Nat → List Nat) → Prop
  | taken (h : liveC s x = 0) : InsS x k B s L 2 s L
  | bad (h : liveC s x = 4) : InsS x k B s L 4 s L
  | dup (h : liveC s x = 1) (i : Nat) (hi : i < s.slots) (hw : s.whr i = 1 ∨ s.whr i = 2) (hk : s.key i = k) : InsS x k B s L 2 s L
  | fresh (i : Nat) (hx : x = (i : Int)) (hi : i < s.slots) (hw : s.whr i = 0) (hn : ∀ j, Hs s j → s.key j ≠ k) (s' : ES) (L' : Nat → List Nat) (he : EntS i k B 1 s L s' L') : InsS x k B s L 0 s' L'
  | back (i : Nat) (hx : x = (i : Int)) (hi : i < s.slots) (hw : s.whr i = 0) (g : Nat) (hk : s.key g = k) (s1 : ES) (L1 : Nat → List Nat) (hd : DropS g s L s1 L1) (s' : ES) (L' : Nat → List Nat) (he : EntS i k B (if B = true then 1 else 2) s1 L1 s' L') : InsS x k B s L 0 s' L'
theorem DropS.fresh {s s1 : ES} {L L1 C : Nat → List Nat} (h : EI s L C) {g : Nat} (hd : DropS g s L s1 L1) : ∀ j, Hs s1 j → s1.key j ≠ s.key g := fun j hj e => by
  obtain ⟨hg, hw, f, r, _⟩ := hd
  unfold Hs at hj
  rw [f.n, r, upd_ev] at hj
  rw [f.key] at e
  by_cases e1 : j = g
  · rw [if_pos e1] at hj
    omega
  · rw [if_neg e1] at hj
    exact e1 (h.uq j g hj ⟨hg, .inr (.inr hw)⟩ e)
section
variable {e gn gb : Nat} {w0 : World} {s : ES} {L C : Nat → List Nat} {w : World}
set_option maxRecDepth 100000 in
set_option maxHeartbeats 1000000 in
theorem insert_ee (h : EE e gn gb w0 s L C w) (x : Int) (k : Nat) (B : Bool) :
    Calls Tryd.prog 25 #[.pointer (some ⟨e, 0, none⟩), .int .i64 x, .int .u64 (k : Int), .bool B] w fun y w' => ∃ c s' L' C', y = Rtn c ∧ EE e gn gb w0 s' L' C' w' ∧ InsS x k B s L c s' L' := by
  have HE := hid h
  have HI := hid (live_walk h.em h.ei.sn x)
  obtain ⟨c, hc⟩ : ∃ c, liveC s x = c := ⟨_, rfl⟩
  obtain ⟨p, hp⟩ : ∃ p, liveP gn s x = p := ⟨_, rfl⟩
  rw [hc, hp] at HI
  have Hc := hid hc
  clear h hc hp
  go_enter Tryd.func25, Tryd.ntmps25
  go_wp2_with fail
  refine HI.out.mono ?_
  rintro y w1 ⟨rfl, rfl⟩
  have hc3 : c = 0 ∨ c = 1 ∨ c = 4 := by
    rw [← Hc.out]
    unfold liveC
    split
    · split <;> simp
    · simp
  rcases hc3 with rfl | rfl | rfl
  · as_aux_lemma =>
    have HG : Hid (∃ s' L' C', EE e gn gb w0 s' L' C' w1 ∧ InsS x k B s L 2 s' L') := hid ⟨s, L, C, HE.out, .taken Hc.out⟩
    go_wp2
    go_ret
    obtain ⟨s', L', C', h1, h2⟩ := HG.out
    exact ⟨2, s', L', C', rfl, h1, h2⟩
  rotate_left
  · as_aux_lemma =>
    have HG : Hid (∃ s' L' C', EE e gn gb w0 s' L' C' w1 ∧ InsS x k B s L 4 s' L') := hid ⟨s, L, C, HE.out, .bad Hc.out⟩
    go_wp2
    go_ret
    obtain ⟨s', L', C', h1, h2⟩ := HG.out
    exact ⟨4, s', L', C', rfl, h1, h2⟩
  obtain ⟨i, hxi, hi, hw0⟩ : ∃ i : Nat, x = (i : Int) ∧ i < s.slots ∧ s.whr i = 0 := by
    have h1 := Hc.out
    unfold liveC at h1
    split at h1
    · rename_i h2
      split at h1
      · rename_i h3
        exact ⟨x.toNat, by omega, by omega, h3⟩
      · cases h1
    · cases h1
  subst hxi
  have Hw0 := hid hw0
  clear hw0 HI
  have HF := hid (find_ee HE.out k)
  go_wp2_with fail
  refine HF.out.mono ?_
  rintro y w2 ⟨⟨v, rfl, hv⟩, hE, _⟩
  have HE2 := hid hE
  have Hei := hid hE.ei
  clear hE HF HE
  cases hv with
  | none hn =>
    as_aux_lemma =>
    have Hn := hid hn
    have HEn := hid (enter_ee HE2.out (B := B) hi Hw0.out (.inl rfl) (fun _ => rfl) hn)
    clear hn
    have dv : ((-1 : Int) != -1) = false := by decide
    go_wp2_with fail
    refine HEn.out.mono ?_
    rintro y w3 ⟨rfl, s3, L3, C3, h3, hS3⟩
    have HG : Hid (∃ s' L' C', EE e gn gb w0 s' L' C' w3 ∧ InsS (i : Int) k B s L 0 s' L') := hid ⟨s3, L3, C3, h3, .fresh i rfl hi Hw0.out Hn.out s3 L3 hS3⟩
    clear h3 hS3 HEn
    go_wp2
    go_ret
    obtain ⟨s', L', C', h1, h2⟩ := HG.out
    exact ⟨0, s', L', C', rfl, h1, h2⟩
  | live j hj hw hk =>
    as_aux_lemma =>
    have hjb : j < 65536 := by have := Hei.out.s1; omega
    have HIg := hid (isGhost_walk HE2.out.em j (by omega))
    rw [decide_eq_false (show ¬ s.slots ≤ j by omega)] at HIg
    have dv : ((j : Int) != -1) = true := bne_iff_ne.2 (by omega)
    have HG : Hid (∃ s' L' C', EE e gn gb w0 s' L' C' w2 ∧ InsS (i : Int) k B s L 2 s' L') := hid ⟨s, L, C, HE2.out, .dup Hc.out j hj hw hk⟩
    clear hw hk
    go_wp2_with fail
    refine HIg.out.mono ?_
    rintro y w3 ⟨rfl, rfl⟩
    go_wp2
    go_ret
    obtain ⟨s', L', C', h1, h2⟩ := HG.out
    exact ⟨2, s', L', C', rfl, h1, h2⟩
  | ghost g hs hg hw hk =>
    as_aux_lemma =>
    have hgb : g < 1000000 := by have := Hei.out.q.nb; omega
    have HIg := hid (isGhost_walk HE2.out.em g hgb)
    rw [decide_eq_true hs] at HIg
    have dv : ((g : Int) != -1) = true := bne_iff_ne.2 (by omega)
    have HD := hid (dropGhost_ee HE2.out hg hw)
    have Hk := hid hk
    have Hw := hid hw
    clear hw hk
    go_wp2_with fail
    refine HIg.out.mono ?_
    rintro y w3 ⟨rfl, rfl⟩
    go_wp2_with fail
    refine HD.out.mono ?_
    rintro y w4 ⟨rfl, s4, C4, h4, f4, r4⟩
    have hdr : DropS g s L s4 _ := ⟨hg, Hw.out, f4, r4, rfl⟩
    have hfr := DropS.fresh Hei.out hdr
    rw [Hk.out] at hfr
    have hgi : i ≠ g := by omega
    have hi4 : i < s4.slots := by rw [f4.slots]; exact hi
    have hw4 : s4.whr i = 0 := by rw [r4, upd_ne _ _ hgi]; exact Hw0.out
    have HEn := hid (enter_ee h4 (i := i) (k := k) (q := if B = true then 1 else 2) (B := B) hi4 hw4 (by split <;> simp) (fun hB => by rw [if_pos hB]) hfr)
    have HDr := hid hdr
    clear h4 f4 r4 HD hdr hfr
    cases B with
    | true =>
      as_aux_lemma =>
      go_wp2_with fail
      refine HEn.out.mono ?_
      rintro y w5 ⟨rfl, s5, L5, C5, h5, hS5⟩
      have HG : Hid (∃ s' L' C', EE e gn gb w0 s' L' C' w5 ∧ InsS (i : Int) k true s L 0 s' L') := hid ⟨s5, L5, C5, h5, .back i rfl hi Hw0.out g Hk.out s4 _ HDr.out s5 L5 hS5⟩
      clear h5 hS5 HEn
      go_wp2
      go_ret
      obtain ⟨s', L', C', h1, h2⟩ := HG.out
      exact ⟨0, s', L', C', rfl, h1, h2⟩
    | false =>
      as_aux_lemma =>
      go_wp2_with fail
      refine HEn.out.mono ?_
      rintro y w5 ⟨rfl, s5, L5, C5, h5, hS5⟩
      have HG : Hid (∃ s' L' C', EE e gn gb w0 s' L' C' w5 ∧ InsS (i : Int) k false s L 0 s' L') := hid ⟨s5, L5, C5, h5, .back i rfl hi Hw0.out g Hk.out s4 _ HDr.out s5 L5 hS5⟩
      clear h5 hS5 HEn
      go_wp2
      go_ret
      obtain ⟨s', L', C', h1, h2⟩ := HG.out
      exact ⟨0, s', L', C', rfl, h1, h2⟩
end
end Go.Proofs.Qxb6500892aDoor
