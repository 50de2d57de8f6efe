/- The heap: free. -/
import Derived.Test.Qxb6500889aDoorMuH3
namespace Go.Proofs.Qxb6500889aDoor
open Go.RowKit
set_option linter.unusedSimpArgs false
set_option linter.unusedVariables false

def fillT (tk : Nat → Bool) (s n : Nat) (b : Bool) : Nat → Bool := fun i => if s ≤ i ∧ i < s + n then b else tk i
theorem fillT_0 (tk : Nat → Bool) (s : Nat) (b : Bool) : fillT tk s 0 b = tk := by
  funext i
  unfold fillT
  rw [if_neg (by omega)]
theorem fillT_s (tk : Nat → Bool) (s n : Nat) (b : Bool) : fup (fillT tk s n b) (s + n) b = fillT tk s (n + 1) b := by
  funext i
  unfold fup fillT
  by_cases h : i = s + n
  · rw [if_pos h, if_pos (by omega)]
  · rw [if_neg h]
    by_cases h2 : s ≤ i ∧ i < s + n
    · rw [if_pos h2, if_pos (by omega)]
    · rw [if_neg h2, if_neg (by omega)]
@[irreducible] def offA (a : Nat) : Nat := a - 65536
theorem offA_add (s : Nat) : offA (65536 + s) = s := by unfold offA; omega
theorem offA_eq {a s : Nat} (h : 65536 + s = a) : offA a = s := by rw [← h]; exact offA_add s
def obW (x : Ob) : Nat := 1 + x.refs.length + x.data.length
def freeH (H : HS) (a : Nat) (x : Ob) : HS := { H with objs := fup H.objs a none, cond := fup H.cond a false, taken := fillT H.taken (offA a) (obW x) false }
section
variable {w w' : World} {ρ ρ' : Rl} {L : HL} {H : HS}
/-- What free leaves. -/
structure FreeP (w : World) (ρ : Rl) (L : HL) (H : HS) (a : Nat) (x : Ob) (w' : World) : Prop where
  hm : HM w' ρ L (freeH H a x)
  fr : Fr ρ w ρ w'
  cd : ∀ F ck, PNk w L.mC F ck → PNk w' L.mC (F.filter fun p => decide (p.k ≠ a)) ck
set_option maxRecDepth 1000000 in
set_option maxHeartbeats 4000000 in
theorem free_walk (h : HM w ρ L H) {s : Nat} {x : Ob} (hx : H.objs (65536 + s) = some x) (hc : H.cond (65536 + s) = true) (hs : s + obW x ≤ 32768) :
    Calls Tryd.prog 78 #[.pointer (some ⟨L.hB, 0, none⟩), .int .u64 ((65536 + s : Nat) : Int)] w fun e w' => e = .returned (.tuple #[]) ∧ FreeP w ρ L H (65536 + s) x w' := by
  have c0 := h.cells.1
  have hlk := h.look hx
  have ho := h.o _ x hx
  have hsz := ho.sz
  have HH := hid h
  have HX := hid hx
  have HCd := hid hc
  obtain ⟨n, hn⟩ : ∃ n, x.refs.length = n := ⟨_, rfl⟩
  obtain ⟨k, hk⟩ : ∃ k, x.data.length = k := ⟨_, rfl⟩
  have hW : obW x = 1 + n + k := by unfold obW; rw [hn, hk]
  have HW := hid hW
  rw [hW] at hs
  obtain ⟨hB, hhB⟩ : ∃ b, L.hB = b := ⟨_, rfl⟩
  obtain ⟨tB, htB⟩ : ∃ b, L.tB = b := ⟨_, rfl⟩
  obtain ⟨mO, hmO⟩ : ∃ b, L.mO = b := ⟨_, rfl⟩
  obtain ⟨mC, hmC⟩ : ∃ b, L.mC = b := ⟨_, rfl⟩
  obtain ⟨oB, hoB⟩ : ∃ b, L.ob (65536 + s) = b := ⟨_, rfl⟩
  obtain ⟨a, ha⟩ : ∃ a, 65536 + s = a := ⟨_, rfl⟩
  have HL := hid (And.intro hhB (And.intro htB (And.intro hmO (And.intro hmC hoB))))
  rw [ha] at hlk hoB HX HCd
  rw [hhB, hmO] at c0
  rw [hmO, hoB] at hlk
  rw [hhB, ha]
  have Ha := hid ha
  have Hn := hid (And.intro hn hk)
  have hsub : ((a : Nat) : Int) - 65536 = (s : Int) := by omega
  have Hs := hid hs
  clear hs
  clear h hx hc ho hhB htB hmO hmC hoB ha hn hk hW
  go_enter Tryd.func78, Tryd.ntmps78
  go_wp2_with fail
  clear hlk c0
  go_loopw [5] (fun i wr => ∃ j : Nat, j ≤ 1 + n + k ∧ i = .int .i64 (j : Int) ∧ Hid (HM wr ρ L { H with taken := fillT H.taken s j false }) ∧ Hid (Fr ρ w ρ wr) ∧ Hid (∀ F ck, PNk w L.mC F ck → PNk wr L.mC F ck)) (fun i _ => 1 + n + k - (intOf i).toNat)
  case atStart => exact ⟨0, by omega, rfl, hid (by rw [fillT_0]; exact HH.out), hid (Fr.refl _ _), hid (fun F ck hF => hF)⟩
  case round =>
    obtain ⟨j, hj, rfl, HM1, HF1, HP1⟩ := hrel
    have ho1 := HM1.out.o a x HX.out
    obtain ⟨X, W, hT, hI⟩ := class_mk (fun w' => Drew wr w')
    have o0 : ∀ y, (W y).cell? ⟨oB, 0, none⟩ = some (.slice (some ⟨L.rb a, 0, none⟩) n n) := fun y => by
      have := (ho1.o.drew (hT y)).cell 0
      rw [Hn.out.1] at this
      rw [← HL.out.2.2.2.2, Ha.out]
      exact this
    have o1 : ∀ y, (W y).cell? ⟨oB, 1, none⟩ = some (.slice (some ⟨L.db a, 0, none⟩) k k) := fun y => by
      have := (ho1.o.drew (hT y)).cell 1
      rw [Hn.out.2] at this
      rw [← HL.out.2.2.2.2, Ha.out]
      exact this
    have H0 : Hid (∃ y, wr.drew = W y) := hid (hI _ ⟨1, rfl⟩)
    have hne : Nonempty X := ⟨H0.out.choose⟩
    have HTT := hid hT
    have b1 : (n : Int) + k ≤ 8192 := by rw [← Hn.out.1, ← Hn.out.2]; omega
    clear hT hI ho1
    obtain ⟨rB, hrB⟩ : ∃ b, L.rb a = b := ⟨_, rfl⟩
    obtain ⟨dB, hdB⟩ : ∃ b, L.db a = b := ⟨_, rfl⟩
    rw [hrB] at o0
    rw [hdB] at o1
    clear hrB hdB
    go_upto_region 2 with fail
    refine wp_region_class W (by kernel_rfl) (by kernel_rfl) H0.out ?_
    repeat (go_big_quiet_step (fail))
    refine wpQuiet_nil ?_
    intro z
    have HZ := hid (Drew.below (HTT.out z) wr.heap.size)
    generalize W z = wz at HZ ⊢
    clear o0 o1 H0 HTT
    have HMz := hid (HM1.out.below HZ.out)
    have HFz := hid (HF1.out.trans (Fr.below HZ.out))
    have HPz : Hid (∀ F ck, PNk w L.mC F ck → PNk wz L.mC F ck) := hid (fun F ck hF => (HP1.out F ck hF).of (HZ.out.block _ (HP1.out F ck hF).pn.lt))
    clear HM1 HF1 HP1 HZ
    by_cases hlt : j < 1 + n + k
    · as_aux_lemma =>
      have dk : decide ((j : Int) < 1 + (n : Int) + (k : Int)) = true := decide_eq_true (by omega)
      go_upto_region 4 with fail
      have hs := Hs.out
      clear dk
      have c1 : wz.cell? ⟨hB, 1, none⟩ = some (.slice (some ⟨tB, 0, none⟩) 32768 32768) := by rw [← HL.out.1, ← HL.out.2.1]; exact HMz.out.cells.2.1
      have c2 : wz.cell? ⟨tB, s + j, none⟩ = some (.bool (fillT H.taken s j false (s + j))) := by rw [← HL.out.2.1]; exact HMz.out.tcell (by omega)
      have f2 : wz.frozen? ⟨tB, s + j, none⟩ = false := by rw [← HL.out.2.1]; exact HMz.out.tk.frozen _
      have HM2 : Hid (HM (wz.setCell ⟨tB, s + j, none⟩ (.bool false)) ρ L { H with taken := fillT H.taken s (j + 1) false }) := hid (by
        have := HMz.out.setT (i := s + j) (by omega) false
        rw [HL.out.2.1] at this
        rw [← fillT_s]
        exact this)
      have hu2 : Upd tB wz (wz.setCell ⟨tB, s + j, none⟩ (.bool false)) := (Upd.refl tB wz).setCell (p := ⟨tB, s + j, none⟩) rfl _
      have HF2 : Hid (Fr ρ w ρ (wz.setCell ⟨tB, s + j, none⟩ (.bool false))) := hid (HFz.out.trans (Fr.upd hu2 (by rw [← HL.out.2.1, HMz.out.r2]; omega)))
      have HP2 : Hid (∀ F ck, PNk w L.mC F ck → PNk (wz.setCell ⟨tB, s + j, none⟩ (.bool false)) L.mC F ck) := hid (fun F ck hF => (HPz.out F ck hF).of (hu2.block _ (HPz.out F ck hF).pn.lt (fun e => by have h1 := HMz.out.r4; rw [e, ← HL.out.2.1, HMz.out.r2] at h1; omega)))
      have i5 : (s : Int) + (j : Int) < 32768 := by omega
      have i6 : (0 : Int) ≤ (s : Int) + (j : Int) := by omega
      have i7 : ((s : Int) + (j : Int)).toNat = s + j := by omega
      have s1 : (s : Int) < 32768 := by omega
      clear hu2 HMz HFz HPz hs
      generalize fillT H.taken s j false (s + j) = b0 at c2
      go_wp2
      exact ⟨⟨j + 1, by omega, by go_num, HM2, HF2, HP2⟩, by simp [intOf]; omega⟩
    · as_aux_lemma =>
      have dk : decide ((j : Int) < 1 + (n : Int) + (k : Int)) = false := decide_eq_false (by omega)
      have hje : j = 1 + n + k := by omega
      subst hje
      have c1 : wz.cell? ⟨hB, 0, none⟩ = some (.map (some mO)) := by rw [← HL.out.1, ← HL.out.2.2.1]; exact HMz.out.cells.1
      obtain ⟨E, p1, p2, p3⟩ := HMz.out.mo
      obtain ⟨e, he, hek⟩ := (p3 a).2 (by show (H.objs a).isSome = true; rw [HX.out]; rfl)
      obtain ⟨w2, hrun, hp2, hu2⟩ := p1.del Tryd.underlying78 und_addr he 0
      rw [hek, HL.out.2.2.1] at hrun
      rw [hek] at hp2
      have hM2 : HM w2 ρ L { H with objs := fup H.objs a none, taken := fillT H.taken s (1 + n + k) false } := by
        refine HMz.out.setO hu2 hp2 (fun e' he' => p2 e' (List.mem_filter.1 he').1) (fun b => ?_) (fun b y hy => ?_) ⟨rfl, rfl, rfl, rfl⟩
        · show _ ↔ (fup H.objs a none b).isSome = true
          by_cases hb : b = a
          · subst hb
            rw [fup_self]
            constructor
            · rintro ⟨e', he', rfl⟩
              have := (List.mem_filter.1 he').2
              simp at this
            · intro h; cases h
          · rw [fup_ne _ _ hb]
            constructor
            · rintro ⟨e', he', rfl⟩
              exact (p3 e'.k).1 ⟨e', (List.mem_filter.1 he').1, rfl⟩
            · intro h
              obtain ⟨e', he', rfl⟩ := (p3 b).2 h
              exact ⟨e', List.mem_filter.2 ⟨he', decide_eq_true hb⟩, rfl⟩
        · have hy' : fup H.objs a none b = some y := hy
          by_cases hb : b = a
          · subst hb; rw [fup_self] at hy'; cases hy'
          · rw [fup_ne _ _ hb] at hy'; exact HMz.out.o b y hy'
      have HM2 := hid hM2
      have HF2 : Hid (Fr ρ w ρ w2) := hid (HFz.out.trans (Fr.upd hu2 (by rw [HMz.out.r3]; omega)))
      have HP2 : Hid (∀ F ck, PNk w L.mC F ck → PNk w2 L.mC F ck) := hid (fun F ck hF => (HPz.out F ck hF).of (hu2.block _ (HPz.out F ck hF).pn.lt (fun e => by have h1 := HMz.out.r4; rw [e, HMz.out.r3] at h1; omega)))
      have c3 : w2.cell? ⟨hB, 10, none⟩ = some (.map (some mC)) := by rw [← HL.out.1, ← HL.out.2.2.2.1]; exact hM2.cells.2.2
      obtain ⟨F, q1, q2, q3⟩ := hM2.mc
      obtain ⟨f, hf, hfk⟩ := (q3 a).2 (by show H.cond a = true; exact HCd.out)
      obtain ⟨ck, hqk⟩ := q1.k
      obtain ⟨w3, hrun3, hp3, hu3⟩ := hqk.del Tryd.underlying83 und_addr hf 0
      rw [hfk, HL.out.2.2.2.1] at hrun3
      rw [hfk] at hp3
      have ht : (freeH H a x).taken = fillT H.taken s (1 + n + k) false := by unfold freeH; dsimp only; rw [HW.out, offA_eq Ha.out]
      have HFin : Hid (FreeP w ρ L H a x w3) := hid ⟨by
        have := hM2.setC (H' := freeH H a x) hu3 hp3.pn (fun e' he' => q2 e' (List.mem_filter.1 he').1) (fun b => ?_) ⟨rfl, ht, rfl, rfl⟩
        · exact this
        · show _ ↔ fup H.cond a false b = true
          by_cases hb : b = a
          · subst hb
            rw [fup_self]
            constructor
            · rintro ⟨e', he', rfl⟩
              have := (List.mem_filter.1 he').2
              simp at this
            · intro h; cases h
          · rw [fup_ne _ _ hb]
            constructor
            · rintro ⟨e', he', rfl⟩
              exact (q3 e'.k).1 ⟨e', (List.mem_filter.1 he').1, rfl⟩
            · intro h
              obtain ⟨e', he', rfl⟩ := (q3 b).2 h
              exact ⟨e', List.mem_filter.2 ⟨he', decide_eq_true hb⟩, rfl⟩, HF2.out.trans (Fr.upd hu3 (by rw [hM2.r4]; omega)), fun G ck' hG => by
        obtain ⟨g1, g2⟩ := (HP2.out G ck' hG).uniq hqk
        subst g1 g2
        exact hp3⟩
      clear ht p1 p2 p3 he hek hp2 hu2 hM2 q1 q2 q3 hf hfk hqk hp3 hu3 HMz HFz HPz HM2 HF2 HP2
      go_wp2
      exact bodyPost_end (v := .tuple #[]) (by simp [results, Tryd.results78, go_sem]) rfl ⟨rfl, HFin.out⟩
end
end Go.Proofs.Qxb6500889aDoor
