/- The model's machine: its file of sets; push, reg. -/
import Derived.Test.Qxb6500884aClPush
import Derived.Test.Qxb6500884aClMR
namespace Go.Proofs.Qxb6500884a
open Go.RowKit
set_option linter.unusedSimpArgs false
set_option linter.unusedVariables false

def stV (p : Nat × (Nat → Bool)) : Value := .slice (some ⟨p.1, 0, none⟩) 196608 196608
def pushG (G : List (Nat × (Nat → Bool))) (x : Nat × (Nat → Bool)) : List (Nat × (Nat → Bool)) := if G.length = 12 then (G ++ [x]).drop 1 else G ++ [x]
structure MMach (mb : Nat) (a : Option Addr) (G : List (Nat × (Nat → Bool))) (w : World) : Prop where
  len : G.length ≤ 12
  out : ∃ c, Blk w mb 59 [.slice a G.length c] ∧ Fl w 35 a G.length c (G.map stV)
  tabs : ∀ p ∈ G, Blk w p.1 4 (tabL p.2)
theorem MMach.of {mb : Nat} {a : Option Addr} {G : List (Nat × (Nat → Bool))} {w w' : World} (h : MMach mb a G w) (hk : ∀ (g : Nat) (t : TypeId) (cs : List Value), (t = 59 ∨ t = 35 ∨ t = 4) → Blk w g t cs → Blk w' g t cs) : MMach mb a G w' := by
  obtain ⟨c, h1, h2⟩ := h.out
  exact ⟨h.len, ⟨c, hk _ _ _ (.inl rfl) h1, h2.of fun k cs _ hc => hk _ _ _ (.inr (.inl rfl)) hc⟩, fun p hp => hk _ _ _ (.inr (.inr rfl)) (h.tabs p hp)⟩
theorem MMach.below {mb : Nat} {a : Option Addr} {G : List (Nat × (Nat → Bool))} {w w' : World} (h : MMach mb a G w) (hb : Below w.heap.size w w') : MMach mb a G w' := h.of fun _ _ _ _ hc => hc.below hb
theorem MMach.blkT {mb : Nat} {a : Option Addr} {G : List (Nat × (Nat → Bool))} {w w' : World} (h : MMach mb a G w) (hu : UpdM mb (blkO a) w w') {g : Nat} {t : TypeId} {cs : List Value} (hb : Blk w g t cs) (h1 : t ≠ 59) (h2 : t ≠ 35) : Blk w' g t cs := by
  obtain ⟨c, m1, m2⟩ := h.out
  unfold Blk
  rw [hu.block g hb.lt (fun e => ?_) (m2.ne hb (fun e => h2 e.symm))]
  · exact hb
  · subst e
    unfold Blk at hb m1
    rw [hb] at m1
    injection m1 with m1
    injection m1 with _ m1
    exact h1 m1
theorem MMach.at {mb : Nat} {a : Option Addr} {G : List (Nat × (Nat → Bool))} {w : World} (h : MMach mb a G w) {k : Nat} (hk : k < G.length) : ∃ p c g off, G[k]? = some p ∧ Blk w p.1 4 (tabL p.2) ∧ a = some ⟨g, off, none⟩ ∧ w.cell? ⟨mb, 0, none⟩ = some (.slice a G.length c) ∧ w.cell? ⟨g, off + k, none⟩ = some (.slice (some ⟨p.1, 0, none⟩) 196608 196608) := by
  obtain ⟨c, h1, h2⟩ := h.out
  obtain ⟨g, off, ha, hc⟩ := h2.cell hk
  have hp : G[k]? = some G[k] := List.getElem?_eq_getElem hk
  refine ⟨G[k], c, g, off, hp, h.tabs _ (List.getElem_mem _), ha, h1.cell 0, ?_⟩
  rw [hc, List.getElem?_map, hp]
  rfl
theorem info_set : ∃ i, Try.prog.info? 35 = some i ∧ i.zero = some (.slice none 0 0) ∧ i.size = 1 ∧ i.bytes = 24 := by
  have h : (Try.prog.info? 35).map (fun i => (i.zero, i.size, i.bytes)) = some (some (.slice none 0 0), 1, 24) := by kernel_rfl
  obtain ⟨i, hi, he⟩ := Option.map_eq_some_iff.1 h
  simp only [Prod.mk.injEq] at he
  exact ⟨i, hi, he.1, he.2.1, he.2.2⟩
structure MPushP (mb : Nat) (a : Option Addr) (G : List (Nat × (Nat → Bool))) (x : Nat × (Nat → Bool)) (w : World) (e : Ending) (w' : World) : Prop where
  ret : e = .returned (.tuple #[])
  out : ∃ a', MMach mb a' (pushG G x) w' ∧ (blkO a' = blkO a ∨ ∃ g, blkO a' = some g ∧ w.heap.size ≤ g)
  upd : UpdM mb (blkO a) w w'
set_option maxRecDepth 100000 in
set_option maxHeartbeats 1000000 in
theorem mpush_walk (mb : Nat) (a : Option Addr) (G : List (Nat × (Nat → Bool))) (x : Nat) (f : Nat → Bool) (w : World) (h : MMach mb a G w) (hx : Blk w x 4 (tabL f)) :
    Calls Try.prog 62 #[.pointer (some ⟨mb, 0, none⟩), .slice (some ⟨x, 0, none⟩) 196608 196608] w fun e w' => MPushP mb a G (x, f) w e w' := by
  obtain ⟨c, hm, hfl⟩ := h.out
  have hlen := h.len
  obtain ⟨i0, hi, hz0, hz1, hz2⟩ := info_set
  have HI := hid (And.intro hi (And.intro hz0 (And.intro hz1 hz2)))
  have HM := hid h
  have HMb := hid hm
  have HF := hid hfl
  have HX := hid hx
  obtain ⟨n, hn⟩ : ∃ n, G.length = n := ⟨_, rfl⟩
  rw [hn] at HMb HF hlen
  have Hn := hid hn
  obtain ⟨g, hg⟩ : ∃ g, w.heap.size = g := ⟨_, rfl⟩
  have hbg := Blk.new w [.slice (some ⟨x, 0, none⟩) 196608 196608] 35
  rw [hg] at hbg
  have HBe1 : Hid (Below w.heap.size w (w.alloc (.cells #[.slice (some ⟨x, 0, none⟩) 196608 196608] 35))) := hid (nbel w _)
  have c0 : w.cell? ⟨mb, 0, none⟩ = some (.slice a n c) := HMb.out.cell 0
  have HMb1 : Hid (Blk (w.alloc (.cells #[.slice (some ⟨x, 0, none⟩) 196608 196608] 35)) mb 59 [.slice a n c]) := hid (HMb.out.below HBe1.out)
  have HF1 : Hid (Fl (w.alloc (.cells #[.slice (some ⟨x, 0, none⟩) 196608 196608] 35)) 35 a n c (G.map stV)) := hid (HF.out.below HBe1.out)
  have Hcg : Hid ((w.alloc (.cells #[.slice (some ⟨x, 0, none⟩) 196608 196608] 35)).cell? ⟨g, 0, none⟩ = some (.slice (some ⟨x, 0, none⟩) 196608 196608)) := hid (hbg.cell 0)
  have hby : (n + 1) * 24 ≤ 140737488355328 := by omega
  clear h hm hfl hx hi hz0 hz1 hz2 hbg hn
  go_enter Try.func62, Try.ntmps62
  go_upto_region 1 with (at_builtin; refine wpList_append_file rfl (.tmp 8) (.tmp 10) 57 rfl 35 i0 (.slice none 0 0) 24 Try.underlying57 HI.out.1 HI.out.2.1 HI.out.2.2.1 HI.out.2.2.2 rfl a n c _ rfl HF1.out g 1 (.slice (some ⟨x, 0, none⟩) 196608 196608) rfl Hcg.out rfl hby (by decide) ?_; intro a5 c5 w5 hf5 hu5 hb5 hn5; have HF5 := hid hf5; have HU5 := hid hu5; have Hb5 := hid hb5; have Hn5 := hid hn5; have HMb5 := hid (HU5.out.blk HMb1.out (HF1.out.ne HMb1.out (by decide))); have c5a : w5.cell? ⟨mb, 0, none⟩ = some (.slice a n c) := HMb5.out.cell 0; have f5 := HMb5.out.frozen 0; clear hf5 hu5 hb5 hn5)
  clear c0
  have HUm : Hid (UpdM mb (blkO a) w (w5.setCell ⟨mb, 0, none⟩ (.slice a5 (n + 1) c5))) := hid (((UpdM.ofBelow (mb := mb) (o := blkO a) HBe1.out).trans HU5.out.updM (fun x hx => .inl hx)).ofUpd ((Upd.refl mb w5).setCell rfl _))
  have HMb6 : Hid (Blk (w5.setCell ⟨mb, 0, none⟩ (.slice a5 (n + 1) c5)) mb 59 [.slice a5 (n + 1) c5]) := hid (HMb5.out.set 0 _)
  have HF6 : Hid (Fl (w5.setCell ⟨mb, 0, none⟩ (.slice a5 (n + 1) c5)) 35 a5 (n + 1) c5 (G.map stV ++ [.slice (some ⟨x, 0, none⟩) 196608 196608])) := hid (HF5.out.of fun k cs hk hc => hc.setOther (fun e => by
    have := HF5.out.ne HMb5.out (by decide)
    rw [hk, ← e] at this
    exact this rfl) _)
  have Hbk : Hid (blkO a5 = blkO a ∨ ∃ g, blkO a5 = some g ∧ w.heap.size ≤ g) := hid (by
    rcases Hb5.out with h | h
    · exact .inl h
    · exact .inr ⟨_, h, HBe1.out.size⟩)
  have HRs : Hid (∀ p ∈ G ++ [(x, f)], Blk (w5.setCell ⟨mb, 0, none⟩ (.slice a5 (n + 1) c5)) p.1 4 (tabL p.2)) := hid (fun p hp => by
    rcases List.mem_append.1 hp with h | h
    · exact HM.out.blkT HUm.out (HM.out.tabs p h) (by decide) (by decide)
    · simp at h
      subst h
      exact HM.out.blkT HUm.out HX.out (by decide) (by decide))
  clear HMb1 HF1 HU5 HMb5 HF5 Hcg Hb5 HBe1
  generalize w5.setCell ⟨mb, 0, none⟩ (.slice a5 (n + 1) c5) = w6 at HUm HMb6 HF6 HRs ⊢
  clear c5a f5
  have c6 : w6.cell? ⟨mb, 0, none⟩ = some (.slice a5 (n + 1) c5) := HMb6.out.cell 0
  by_cases h12 : n = 12
  · have d12 : decide ((12 : Int) < (n : Int) + 1) = true := decide_eq_true (by omega)
    have f6 := HMb6.out.frozen 0
    obtain ⟨ag, haf⟩ := Option.ne_none_iff_exists'.1 Hn5.out
    obtain ⟨p0, S', hS⟩ : ∃ p0 S', G = p0 :: S' := by
      have := Hn.out
      cases G with
      | nil => simp at this; omega
      | cons p0 S' => exact ⟨p0, S', rfl⟩
    subst hS
    subst haf
    subst h12
    obtain ⟨g6, o6, rfl⟩ : ∃ g6 o6, ag = ⟨g6, o6, none⟩ := by
      rcases HF6.out.out with ⟨h, _⟩ | ⟨g6, o6, cs, h, _⟩
      · cases h
      · exact ⟨g6, o6, Option.some.inj h⟩
    have hle := HF6.out.le
    have hmx := HF6.out.mx
    unfold maxLen at hmx
    have HF7 : Hid (Fl w6 35 (some ⟨g6, o6 + 1, none⟩) 12 (c5 - 1) (S'.map stV ++ [.slice (some ⟨x, 0, none⟩) 196608 196608])) := hid (Fl.tail (x := stV p0) (by have h := HF6.out; rw [List.map_cons, List.cons_append] at h; exact h))
    have Hne : Hid (blkO (some ⟨g6, o6, none⟩) ≠ some mb) := hid (HF6.out.ne HMb6.out (by decide))
    go_wp2
    refine bodyPost_end (results_none Try.results62 _ _ _) rfl ?_
    have hp : pushG (p0 :: S') (x, f) = S' ++ [(x, f)] := by unfold pushG; rw [if_pos Hn.out]; rfl
    have hne : mb ≠ g6 := fun e => Hne.out (by rw [e]; rfl)
    have hu7 : Upd mb w6 (w6.setCell ⟨mb, 0, none⟩ (.slice (some ⟨g6, o6 + 1, none⟩) 12 (c5 - 1))) := (Upd.refl mb w6).setCell rfl _
    refine ⟨rfl, ⟨some ⟨g6, o6 + 1, none⟩, ?_, Hbk.out⟩, HUm.out.ofUpd hu7⟩
    rw [hp]
    have hl1 : (S' ++ [(x, f)]).length = 12 := by have := Hn.out; rw [List.length_append]; simp at this ⊢; omega
    refine ⟨by rw [hl1]; omega, ⟨c5 - 1, by rw [hl1]; exact HMb6.out.set 0 _, by rw [hl1, List.map_append]; exact HF7.out.of fun k cs hk hc => hc.setOther (fun e => by cases hk; exact hne e) _⟩, fun p hp => ?_⟩
    exact (HRs.out p (by rw [List.cons_append]; exact List.mem_cons_of_mem _ hp)).updT HMb6.out (by decide) hu7
  · have d12 : decide ((12 : Int) < (n : Int) + 1) = false := decide_eq_false (by omega)
    go_wp2
    refine bodyPost_end (results_none Try.results62 _ _ _) rfl ?_
    have hp : pushG G (x, f) = G ++ [(x, f)] := by unfold pushG; rw [if_neg (by rw [Hn.out]; exact h12)]
    refine ⟨rfl, ⟨a5, ?_, Hbk.out⟩, HUm.out⟩
    rw [hp]
    have hl1 : (G ++ [(x, f)]).length = n + 1 := by rw [List.length_append, Hn.out]; rfl
    exact ⟨by rw [hl1]; omega, ⟨c5, by rw [hl1]; exact HMb6.out, by rw [hl1, List.map_append]; exact HF6.out⟩, HRs.out⟩
theorem regIx_tm2 {n : Nat} (h : 0 < n) (i : Int) : ((i.tmod (n : Int) + (n : Int)).tmod (n : Int)) = (regIx n i : Int) := by
  have h1 := Int.emod_nonneg i (show (n : Int) ≠ 0 by omega)
  have h2 := Int.emod_lt_of_pos i (show (0 : Int) < (n : Int) by omega)
  have h3 := regIx_tmod h i
  have h4 := regIx_lt h i
  split at h3
  · rw [← h3]
    exact Int.tmod_eq_of_lt (by omega) (by omega)
  · rw [← h3]
    rw [Int.tmod_eq_emod_of_nonneg (by omega), Int.add_emod_right]
    exact Int.emod_eq_of_lt (by omega) (by omega)
set_option maxRecDepth 100000 in
set_option maxHeartbeats 1000000 in
theorem mreg_walk (mb : Nat) (a : Option Addr) (G : List (Nat × (Nat → Bool))) (i : Int) (p : Nat × (Nat → Bool)) (w : World) (h : MMach mb a G w) (hf : Fit i) (h0 : 0 < G.length) (hp : G[regIx G.length i]? = some p) :
    Calls Try.prog 63 #[.pointer (some ⟨mb, 0, none⟩), .int .i64 i] w fun e w' => e = .returned (.slice (some ⟨p.1, 0, none⟩) 196608 196608) ∧ Below w.heap.size w w' := by
  obtain ⟨p', c, g, off, hp', hok, rfl, c0, c1⟩ := h.at (regIx_lt h0 i)
  rw [hp] at hp'
  cases hp'
  have ht := regIx_tmod h0 i
  have ht2 := regIx_tm2 h0 i
  have hlt := regIx_lt h0 i
  have hlen := h.len
  obtain ⟨n, hn⟩ : ∃ n, G.length = n := ⟨_, rfl⟩
  rw [hn] at ht ht2 hlt hlen c0 c1 h0
  obtain ⟨k, hk⟩ : ∃ k, regIx n i = k := ⟨_, rfl⟩
  rw [hk] at ht ht2 hlt c1
  obtain ⟨z, hz⟩ : ∃ z, i.tmod (n : Int) = z := ⟨_, rfl⟩
  rw [hz] at ht ht2
  have hz1 : -12 ≤ z ∧ z ≤ 12 := by split at ht <;> omega
  have hz2 := hz1.1
  have hz3 := hz1.2
  have hn0 : ((n : Int) == 0) = false := by simp; omega
  have hn1 : ¬ (n : Int) = 0 := by omega
  have i1 : (k : Int) < (n : Int) := by omega
  obtain ⟨hf1, hf2⟩ := hf
  have e0 : ∀ nn, (w.drewN nn).cell? ⟨mb, 0, none⟩ = some (.slice (some ⟨g, off, none⟩) n c) := fun nn => c0
  have e1 : ∀ nn, (w.drewN nn).cell? ⟨g, off + k, none⟩ = some (.slice (some ⟨p.1, 0, none⟩) 196608 196608) := fun nn => c1
  obtain ⟨y, hy⟩ : ∃ y, z + (n : Int) = y := ⟨_, rfl⟩
  rw [hy] at ht2
  have hy1 : 0 ≤ y := by split at ht <;> omega
  have hy2 : y ≤ 24 := by omega
  clear h hp hok hn hk ht hz1
  go_enter Try.func63, Try.ntmps63
  go_upto_region 2 with fail
  go_quiet (fail)
  have HB := hid (Drew.below ⟨nq, rfl⟩ _ : Below w.heap.size w (w.drewN nq))
  generalize w.drewN nq = w2 at HB ⊢
  go_wp2
  go_ret
  exact ⟨rfl, HB.out⟩
end Go.Proofs.Qxb6500884a
