/- describe, badNumberText (written by tools/mk_scp.py). -/
import Derived.Test.Qxb6500883aGreatDoorScO
namespace Go.Proofs.Qxb6500883aGreatDoor
open Go.RowKit
set_option linter.unusedSimpArgs false
set_option linter.unusedVariables false
theorem ttS_size (i : Nat) : (ttS i).size ≤ 9 := by
  unfold ttS
  rw [List.getD_eq_getElem?_getD]
  cases h : ttL[i]? with
  | none => decide
  | some x =>
    have hm := List.mem_of_getElem? h
    have : ∀ y ∈ ttL, y.size ≤ 9 := by decide
    exact this x hm
section
variable {w w' : World} {a : Option Addr} {n c : Nat} {bs : List UInt8} {N mg : Nat}
/-- Inside: the token lies in a block of its own. -/
structure DsU (w : World) (p : Nat) (t : Tk) (N mg : Nat) (a : Option Addr) (n c : Nat) (bs : List UInt8) (w1 : World) : Prop where
  b : Blk w1 p 112 (tkC t)
  s : Src w1 a n c bs
  g : Gl N mg w1
  be : Below w.heap.size w w1
theorem DsU.start (hs : Src w a n c bs) (hg : Gl N mg w) (t : Tk) : DsU w w.heap.size t N mg a n c bs (w.alloc (.cells (tkC t).toArray 112)) :=
  ⟨Blk.new w _ _, hs.below (nbel w _), hg.below' (nbel w _), nbel w _⟩
theorem DsU.cells {p : Nat} {t : Tk} {w1 : World} (h : DsU w p t N mg a n c bs w1) : w1.cell? ⟨p, 0, none⟩ = some (.int .u8 (t.kind : Int)) ∧ w1.cell? ⟨p, 1, none⟩ = some (.int .i64 (t.pos : Int)) ∧ w1.cell? ⟨p, 2, none⟩ = some (.int .i64 (t.en : Int)) ∧ w1.cell? ⟨p, 3, none⟩ = some (.int .i64 (t.bad : Int)) :=
  ⟨h.b.cell 0, h.b.cell 1, h.b.cell 2, h.b.cell 3⟩
set_option maxRecDepth 100000 in
set_option maxHeartbeats 1000000 in
theorem describeW (hs : Src w a n c bs) (hg : Gl N mg w) (t : Tk) (ht : TkOk n t) : Calls Tryz.prog 114 #[.slice a n c, .agg (tkC t).toArray] w fun e w' => ∃ s : ByteArray, e = .returned (.string s) ∧ 0 < s.size ∧ s.size ≤ 17592186044100 ∧ Hid (Below w.heap.size w w') := by
  obtain ⟨p, hp⟩ : ∃ p, w.heap.size = p := ⟨_, rfl⟩
  have H1 := hid (DsU.start hs hg t)
  rw [hp] at H1
  have hle := hs.le
  obtain ⟨hcap, _, hcm⟩ := hs.cap
  obtain ⟨k, ps, en, bd, vl⟩ := t
  obtain ⟨hk, hpe, hen, hbp, hbn, hv, hf⟩ := ht
  dsimp only at hk hpe hen hbp hbn hv hf
  dsimp only [tkC] at H1 ⊢
  clear hs hg
  go_enter Tryz.func114, Tryz.ntmps114
  go_upto_region 1 with fail
  (try simp only [hp])
  generalize hw1 : w.alloc _ = w1 at H1 ⊢
  clear hw1 hp
  obtain ⟨c0, c1, c2, _⟩ := H1.out.cells
  dsimp only at c0 c1 c2
  have HB := hid H1.out.be
  by_cases h0 : k = 0
  · as_aux_lemma =>
    have q0 : ((k : Int) == 0) = true := by simp; omega
    clear h0 hf hbp
    go_wp2
    go_ret
    exact ⟨_, rfl, by decide, by decide, HB⟩
  have q0 : ((k : Int) == 0) = false := by simp; omega
  by_cases h1 : k = 1
  · as_aux_lemma =>
    have q1 : ((k : Int) == 1) = true := by simp; omega
    clear h1 hf hbp
    go_wp2
    go_ret
    exact ⟨_, rfl, by decide, by decide, HB⟩
  have q1 : ((k : Int) == 1) = false := by simp; omega
  by_cases h2 : k = 2
  · as_aux_lemma =>
    have q2 : ((k : Int) == 2) = true := by simp; omega
    have hpn : ps < n := by have := hf (by omega); omega
    obtain ⟨b, off, rfl, _, hcx⟩ := H1.out.s.cell hpn
    have HX := hid (hexByteW (cN bs ps) (cN_lt _ _))
    have hx2 := cN_lt bs ps
    generalize cN bs ps = x at hcx HX hx2
    have i1 : (ps : Int) < (n : Int) := by omega
    clear h2 hf hbp
    go_wp2_with fail
    refine (HX.out _).mono ?_
    rintro e w2 ⟨s, rfl, hs4, hb2⟩
    have HB2 := hid (HB.out.trans (hb2.out.mono HB.out.size))
    clear hb2 HB HX
    have hz : (({ data := #[98, 121, 116, 101, 32] } : ByteArray) ++ s).size = 9 := by rw [ba_size, hs4]; rfl
    go_wp2
    go_ret
    exact ⟨_, rfl, by rw [hz]; decide, by rw [hz]; decide, HB2⟩
  have q2 : ((k : Int) == 2) = false := by simp; omega
  by_cases h3 : k = 3
  · as_aux_lemma =>
    have q3 : ((k : Int) == 3) = true := by simp; omega
    clear h3 hf hbp
    go_wp2
    go_ret
    exact ⟨_, rfl, by decide, by decide, HB⟩
  have q3 : ((k : Int) == 3) = false := by simp; omega
  by_cases h4 : k = 4
  · as_aux_lemma =>
    have q4 : ((k : Int) == 4) = true := by simp; omega
    have hpn : ps < en := hf (by omega)
    obtain ⟨b, off, rfl, _, _⟩ := H1.out.s.cell (k := ps) (by omega)
    have hsl := slice_in (b := b) (off := off) (n := n) (c := c) hpn hen hcap hcm
    have hst := H1.out.s.str hpn hen rfl (c - ps)
    have hsz : (sub bs ps en).size ≤ 17592186044000 := by rw [sub_size bs (by rw [H1.out.s.len]; exact hen)]; omega
    generalize sub bs ps en = s at hst hsz
    clear h4 hf hbp
    have HQ := hid (quoteZ s (by omega))
    go_wp2_with fail
    refine (HQ.out _).mono ?_
    rintro e w2 ⟨s2, rfl, hs2, rfl⟩
    clear HQ
    have hz : (({ data := #[110, 97, 109, 101, 32] } : ByteArray) ++ s2).size = 5 + s2.size := by rw [ba_size]; rfl
    go_wp2
    go_ret
    exact ⟨_, rfl, by rw [hz]; omega, by rw [hz]; omega, HB⟩
  have q4 : ((k : Int) == 4) = false := by simp; omega
  by_cases h5 : k = 5
  · as_aux_lemma =>
    have q5 : ((k : Int) == 5) = true := by simp; omega
    have hpn : ps < en := hf (by omega)
    obtain ⟨b, off, rfl, _, _⟩ := H1.out.s.cell (k := ps) (by omega)
    have hsl := slice_in (b := b) (off := off) (n := n) (c := c) hpn hen hcap hcm
    have hst := H1.out.s.str hpn hen rfl (c - ps)
    have hsz : (sub bs ps en).size ≤ 17592186044000 := by rw [sub_size bs (by rw [H1.out.s.len]; exact hen)]; omega
    generalize sub bs ps en = s at hst hsz
    clear h5 hf hbp
    have hz : (({ data := #[110, 117, 109, 98, 101, 114, 32] } : ByteArray) ++ s).size = 7 + s.size := by rw [ba_size]; rfl
    go_wp2
    go_ret
    exact ⟨_, rfl, by rw [hz]; omega, by rw [hz]; omega, HB⟩
  have q5 : ((k : Int) == 5) = false := by simp; omega
  have htt := H1.out.g.tt k hk
  have hts := ttS_size k
  generalize ttS k = s at htt hts
  have i1 : (k : Int) < 38 := by omega
  have hz : (({ data := #[39] } : ByteArray) ++ s ++ { data := #[39] }).size = 1 + s.size + 1 := by rw [ba_size, ba_size]; rfl
  clear hf hbp
  go_wp2
  go_ret
  exact ⟨_, rfl, by rw [hz]; omega, by rw [hz]; omega, HB⟩
end
end Go.Proofs.Qxb6500883aGreatDoor
