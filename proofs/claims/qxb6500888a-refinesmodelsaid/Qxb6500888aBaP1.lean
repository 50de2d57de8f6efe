/- A harvest in memory beside the machine; what a logged entry yields. -/
import Derived.Test.Qxb6500888aBaB9
import Derived.Test.Qxb6500888aHeavy
namespace Go.Proofs.Qxb6500888a
open Go.RowKit
set_option linter.unusedSimpArgs false
set_option linter.unusedVariables false

/-- A harvest in memory: role 40 its block, 41 .. 48 its rows. -/
structure HvM (w : World) (ρ : Rl) (hB : Nat) (V : Nat → Value) (hv : Nat → List Nat) : Prop where
  bl : Blk w hB 36 (fnC 8 V)
  ro : ρ hB = 40
  rw : ∀ i, i < 8 → RowX rtA w ρ (41 + i) (V i) (hv i)
/-- The machine and a harvest. -/
structure PMx (x : Nat) (w : World) (ρ : Rl) (L : GL) (T : BL) (hB : Nat) (V : Nat → Value) (G : GS) (B : BS) (hv : Nat → List Nat) : Prop where
  bm : BMx x w ρ L T G B
  hm : HvM w ρ hB V hv
abbrev PM := PMx 4
/-- The machine's roles and the harvest's. -/
def pX (c : Nat) : Bool := decide (1 ≤ c ∧ c ≤ 63)
theorem pX_b {c : Nat} (h : bX c = true) : pX c = true := by
  have := of_decide_eq_true h
  exact decide_eq_true (by omega)
theorem pX_of {r c : Nat} (hr : 1 ≤ r ∧ r ≤ 63) (h : (c == r) = true) : pX c = true := by
  have : c = r := by simpa using h
  subst this
  exact decide_eq_true hr
theorem bX_hi {i : Nat} : bX (41 + i) = false := decide_eq_false (by omega)
section
variable {x : Nat} {X : Nat → Bool} {w w' : World} {ρ ρ' : Rl} {L L' : GL} {T T' : BL} {hB : Nat} {V : Nat → Value} {G G' : GS} {B B' : BS} {hv : Nat → List Nat}
theorem HvM.fr (h : HvM w ρ hB V hv) (hf : Fr X ρ w ρ' w') (hx : X 40 = false) (hy : ∀ i, i < 8 → X (41 + i) = false) : HvM w' ρ' hB V hv := ⟨hf.keep h.bl h.ro hx, by rw [hf.old _ h.bl.lt]; exact h.ro, fun i hi => (h.rw i hi).fr hf (hy i hi)⟩
/-- The machine has worked. -/
theorem PMx.mach (h : PMx x w ρ L T hB V G B hv) (hb : BMx x w' ρ' L' T' G' B') (hf : Fr bX ρ w ρ' w') : PMx x w' ρ' L' T' hB V G' B' hv := ⟨hb, h.hm.fr hf rfl (fun _ _ => bX_hi)⟩
theorem PMx.below (h : PMx x w ρ L T hB V G B hv) (hb : Below w.heap.size w w') : PMx x w' ρ L T hB V G B hv := h.mach (h.bm.below hb) (Fr.below hb)
theorem PMx.hcell (h : PMx x w ρ L T hB V G B hv) {i : Nat} (hi : i < 8) : w.cell? ⟨hB, i, none⟩ = some (V i) := by rw [h.hm.bl.cell, fnC_get _ hi]
/-- A list of the harvest's is another. -/
theorem PMx.app (h : PMx x w ρ L T hB V G B hv) {i : Nat} (hi : i < 8) {v : Value} {xs : List Nat} (hf : Fr (fun r => r == 41 + i) ρ w ρ' w') (hr : RowX rtA w' ρ' (41 + i) v xs) :
    PMx x (w'.setCell ⟨hB, i, none⟩ v) ρ' L T hB (fup V i v) G B (fup hv i xs) ∧ Fr (fun r => r == 41 + i || r == 40) ρ w ρ' (w'.setCell ⟨hB, i, none⟩ v) := by
  have ro : ρ' hB = 40 := by rw [hf.old _ h.hm.bl.lt]; exact h.hm.ro
  have hf2 : Fr (fun r => r == 40) ρ' w' ρ' (w'.setCell ⟨hB, i, none⟩ v) := Fr.set _ (by show (ρ' hB == 40) = true; rw [ro]; rfl)
  have hf3 : Fr (fun r => r == 41 + i || r == 40) ρ w ρ' (w'.setCell ⟨hB, i, none⟩ v) := (hf.mono fun c hc => by simp at hc ⊢; exact .inl hc).trans (hf2.mono fun c hc => by simp at hc ⊢; exact .inr hc)
  refine ⟨⟨h.bm.keep hf3 (fun c hc => ?_), ⟨?_, ro, fun j hj => ?_⟩⟩, hf3⟩
  · have := of_decide_eq_true hc
    show (c == 41 + i || c == 40) = false
    simp
    omega
  · have := (hf.keep h.hm.bl h.hm.ro (by show (40 == 41 + i) = false; simp; omega)).set i v
    rw [fnC_set _ hi] at this
    exact this
  · by_cases e : j = i
    · subst e
      rw [fup_self, fup_self]
      exact hr.fr hf2 (by show (41 + j == 40) = false; simp; omega)
    · rw [fup_ne _ _ e, fup_ne _ _ e]
      exact (h.hm.rw j hj).fr hf3 (by show (41 + j == 41 + i || 41 + j == 40) = false; simp; omega)
theorem pX_app {i c : Nat} (hi : i < 8) (hc : (c == 41 + i || c == 40) = true) : pX c = true := by
  simp at hc
  exact decide_eq_true (by omega)
/-- One address is put into list i. -/
def hput (hv : Nat → List Nat) (i x : Nat) : Nat → List Nat := fup hv i (hv i ++ [x])
/-- What a logged entry yields. -/
def hlog1 (hv : Nat → List Nat) (o : Nat) : Nat → List Nat := if o = 0 then hv else hput hv 1 o
def hlog2 (hv : Nat → List Nat) (x : Nat) : Nat → List Nat := if x = 0 then hv else hput hv 0 x
def hlog (G : GS) (hv : Nat → List Nat) (p : Nat × Nat) : Nat → List Nat := hlog2 (hlog1 hv p.2) (G.word (offA p.1))
/-- A box that holds a pointer. -/
def Box (w : World) (ρ : Rl) (p : Nat) (t : TypeId) (v : Value) : Prop := Blk w p t [v] ∧ ρ p = 0
theorem Box.fr {p : Nat} {t : TypeId} {v : Value} (h : Box w ρ p t v) (hf : Fr X ρ w ρ' w') (hX : X 0 = false) : Box w' ρ' p t v := ⟨hf.keep h.1 h.2 hX, by rw [hf.old _ h.1.lt]; exact h.2⟩
theorem Box.cell {p : Nat} {t : TypeId} {v : Value} (h : Box w ρ p t v) : w.cell? ⟨p, 0, none⟩ = some v := h.1.cell 0
def HlP (w : World) (ρ : Rl) (L : GL) (T : BL) (hB : Nat) (G : GS) (B : BS) (hv : Nat → List Nat) (w' : World) : Prop := ∃ V' ρ', PM w' ρ' L T hB V' G B hv ∧ Fr pX ρ w ρ' w'
theorem HlP.trans {hv2 : Nat → List Nat} {w0 : World} {ρ0 : Rl} (hf : Fr pX ρ0 w0 ρ w) (h : HlP w ρ L T hB G B hv2 w') : HlP w0 ρ0 L T hB G B hv2 w' := by
  obtain ⟨V', ρ', h1, h2⟩ := h
  exact ⟨V', ρ', h1, hf.trans h2⟩
end
section
variable {w w' : World} {ρ ρ' : Rl} {L : GL} {T : BL} {hB : Nat} {V : Nat → Value} {G : GS} {B : BS} {hv : Nat → List Nat}
set_option maxRecDepth 1000000 in
set_option maxHeartbeats 8000000 in
theorem hlog_walk (h : PM w ρ L T hB V G B hv) {pt1 pt2 : TypeId} {ph pb : Nat} (h1 : Box w ρ ph pt1 (.pointer (some ⟨hB, 0, none⟩))) (h2 : Box w ρ pb pt2 (.pointer (some ⟨T.bB, 0, none⟩))) (f o s : Nat) (hs : 65536 + s = f) (hs2 : s < 32768) (hl : ∀ i, i < 8 → (hv i).length ≤ 1000000000000) :
    Calls Try.prog 91 #[.agg #[.int .u64 (f : Int), .int .u64 (o : Int)], .pointer (some ⟨ph, 0, none⟩), .pointer (some ⟨pb, 0, none⟩)] w fun e w' => e = .returned (.tuple #[]) ∧ HlP w ρ L T hB G B (hlog G hv (f, o)) w' := by
  have HH := hid h
  have HX1 := hid h1
  have HX2 := hid h2
  have Hl := hid hl
  have Hs := hid (And.intro hs hs2)
  obtain ⟨g, hg⟩ : ∃ g, w.heap.size = g := ⟨_, rfl⟩
  have Hg := hid hg
  clear h h1 h2 hl hs hs2
  go_enter Try.func91, Try.ntmps91
  go_upto_region 1 with fail
  obtain ⟨wa, hwa⟩ : ∃ wa, w.alloc (.cells #[.int .u64 (f : Int), .int .u64 (o : Int)] 59) = wa := ⟨_, rfl⟩
  have HBa : Hid (Below w.heap.size w wa) := hid (by rw [← hwa]; exact nbel w _)
  have HNa : Hid (Blk wa g 59 [.int .u64 (f : Int), .int .u64 (o : Int)]) := hid (by rw [← hwa, ← hg]; exact Blk.new w [.int .u64 (f : Int), .int .u64 (o : Int)] _)
  have Hg0 : Hid (ρ g = 0) := hid (by
    by_cases e : ρ g = 0
    · exact e
    · have := HH.out.bm.gm.dom g e
      omega)
  (try simp only [hwa])
  clear hwa hg
  have HMa := hid (HH.out.below HBa.out)
  have HX1a := hid (HX1.out.fr (Fr.below HBa.out : Fr pX ρ w ρ wa) rfl)
  have HX2a := hid (HX2.out.fr (Fr.below HBa.out : Fr pX ρ w ρ wa) rfl)
  have HGa : Hid (Box wa ρ g 59 (.int .u64 (f : Int)) ∨ (Blk wa g 59 [.int .u64 (f : Int), .int .u64 (o : Int)] ∧ ρ g = 0)) := hid (.inr ⟨HNa.out, Hg0.out⟩)
  have ca : wa.cell? ⟨g, 1, none⟩ = some (.int .u64 (o : Int)) := HNa.out.cell 1
  go_upto_if 7 with fail
  clear ca
  generalize hbo : ((o : Int) != 0) = bo
  have Hbo := hid hbo
  clear hbo
  go_cut [] from 8 to 18 (fun wc => Hid (∃ V1 ρ1, PM wc ρ1 L T hB V1 G B (hlog1 hv o) ∧ Fr pX ρ wa ρ1 wc ∧ ρ1 g = 0))
  case first =>
    cases bo with
    | false =>
      as_aux_lemma =>
      have ho : o = 0 := by have := Hbo.out; simp at this; omega
      subst ho
      have HR : Hid (∃ V1 ρ1, PM wa ρ1 L T hB V1 G B (hlog1 hv 0) ∧ Fr pX ρ wa ρ1 wa ∧ ρ1 g = 0) := hid ⟨V, ρ, by unfold hlog1; rw [if_pos rfl]; exact HMa.out, Fr.refl _ _ _, Hg0.out⟩
      go_wp2
      go_meet
      exact HR
    | true =>
      as_aux_lemma =>
      have ho : ¬ o = 0 := by have := Hbo.out; simp at this; omega
      obtain ⟨ax, k, hV⟩ := (HMa.out.hm.rw 1 (by decide)).shape
      obtain ⟨n, hn⟩ : ∃ n, (hv 1).length = n := ⟨_, rfl⟩
      rw [hn] at hV
      have HV := hid hV
      have Hn := hid hn
      have HS : Hid (∀ wx : World, Below wa.heap.size wa wx → wx.cell? ⟨ph, 0, none⟩ = some (.pointer (some ⟨hB, 0, none⟩)) ∧ wx.cell? ⟨hB, 1, none⟩ = some (.slice ax n k) ∧ wx.cell? ⟨g, 1, none⟩ = some (.int .u64 (o : Int))) := hid (fun wx hx => ⟨(HX1a.out.fr (Fr.below hx : Fr pX ρ wa ρ wx) rfl).cell, by rw [← HV.out]; exact (HMa.out.below hx).hcell (by decide), (HNa.out.below hx).cell 1⟩)
      clear hV hn
      go_upto_region 2 with fail
      refine wp_region_heavy (fun wx => wx.cell? ⟨ph, 0, none⟩ = some (.pointer (some ⟨hB, 0, none⟩)) ∧ wx.cell? ⟨hB, 1, none⟩ = some (.slice ax n k) ∧ wx.cell? ⟨g, 1, none⟩ = some (.int .u64 (o : Int))) 9 [0, 1, 2, 3, 4, 5, 6] [7, 8] rfl (by kernel_rfl) (by kernel_rfl) (fun d _ _ _ _ h => by cases d <;> exact h) (HS.out _ (Drew.below ⟨1, rfl⟩ _)) ?_
      apply Exists.intro
      refine ⟨?_, ?_⟩
      · intro W hW
        have e1 := fun x => (hW x).1
        have e2 := fun x => (hW x).2.1
        have e3 := fun x => (hW x).2.2
        simp only [List.take, opsAt, List.drop, List.cons_append, List.nil_append]
        repeat (go_big_quiet_step (fail))
        exact rfl
      simp only [List.take, List.drop, opsAt, List.cons_append, List.nil_append, wpHv]
      have HBd : Hid (Below wa.heap.size wa wa.drew) := hid (Drew.below ⟨1, rfl⟩ _)
      generalize wa.drew = wd at HBd ⊢
      go_wp2_with fail
      obtain ⟨wf, hwf⟩ : ∃ wf, wd.alloc (.cells #[.int .u64 (o : Int)] 48) = wf := ⟨_, rfl⟩
      have HBf : Hid (Below wa.heap.size wa wf) := hid (by rw [← hwf]; exact HBd.out.trans ((nbel wd _).mono HBd.out.size))
      have HNw : Hid (∀ ad, some (⟨wd.heap.size, 0, none⟩ : Addr) = some ad → ∀ j u, ([o].flatMap rtA.f)[j]? = some u → wf.cell? (ad.add j) = some u) := hid (by rw [← hwf]; exact newX rtA wd o _ rfl)
      (try simp only [hwf])
      refine ⟨HS.out _ HBf.out, ?_⟩
      clear hwf
      have HHf := hid (HMa.out.below HBf.out)
      have hrf := HHf.out.hm.rw 1 (by decide)
      rw [HV.out] at hrf
      refine wpList_app_x okA rfl (.tmp 12) (.tmp 15) hrf rfl [o] (by simp [Act.eval, Act.put]; done) (some ⟨wd.heap.size, 0, none⟩) 1 1 (by simp [Act.eval, Act.put]; done) rfl (fun h => by cases h) HNw.out (by have := Hl.out 1 (by decide); show ((hv 1).length + 1) * 8 ≤ _; omega) ?_
      intro v8 w8 ρ8 hr8 hf8 _ _
      obtain ⟨a8, k8, h8⟩ := hr8.out.shape
      rw [List.length_append, List.length_singleton, Hn.out] at h8
      subst h8
      have HM8 := hid (HHf.out.app (by decide) hf8.out hr8.out)
      have hbk : ∀ x, x < wf.heap.size → ρ x ≠ 42 → w8.heap[x]? = wf.heap[x]? := fun x hx hne => hf8.out.blk x hx (by show (ρ x == 42) = false; simp; exact hne)
      have s1 : w8.cell? ⟨ph, 0, none⟩ = some (.pointer (some ⟨hB, 0, none⟩)) := by rw [World.cell?_of_block (hbk ph (Nat.lt_of_lt_of_le HX1a.out.1.lt HBf.out.size) (by rw [HX1a.out.2]; decide))]; exact (HS.out _ HBf.out).1
      have s2 : w8.cell? ⟨hB, 1, none⟩ = some (.slice ax n k) := by rw [World.cell?_of_block (hbk hB HHf.out.hm.bl.lt (by rw [HHf.out.hm.ro]; decide))]; exact (HS.out _ HBf.out).2.1
      have s3 : w8.cell? ⟨g, 1, none⟩ = some (.int .u64 (o : Int)) := by rw [World.cell?_of_block (hbk g (Nat.lt_of_lt_of_le HNa.out.lt HBf.out.size) (by rw [Hg0.out]; decide))]; exact (HS.out _ HBf.out).2.2
      have f2 : w8.frozen? ⟨hB, 1, none⟩ = false := by rw [World.frozen?_of_block (hbk hB HHf.out.hm.bl.lt (by rw [HHf.out.hm.ro]; decide))]; exact HHf.out.hm.bl.frozen _
      have HR : Hid (∃ V1 ρ1, PM (w8.setCell ⟨hB, 1, none⟩ (.slice a8 (n + 1) k8)) ρ1 L T hB V1 G B (hlog1 hv o) ∧ Fr pX ρ wa ρ1 (w8.setCell ⟨hB, 1, none⟩ (.slice a8 (n + 1) k8)) ∧ ρ1 g = 0) := hid ⟨_, ρ8, by unfold hlog1 hput; rw [if_neg ho]; exact HM8.out.1, (Fr.below HBf.out).trans (HM8.out.2.mono (fun c => pX_app (by decide))), by rw [hf8.out.old g (Nat.lt_of_lt_of_le HNa.out.lt HBf.out.size)]; exact Hg0.out⟩
      clear hrf hr8 hf8 HHf HNw HBf HBd HM8 hbk
      go_wp2_with fail
      refine ⟨⟨s1, s2, s3⟩, ?_⟩
      simp only [QN]
      go_wp2
      go_meet
      exact HR
  case rest =>
    obtain ⟨V1, ρ1, hp1, hf1, hg1⟩ := hcut.out
    have HM1 := hid hp1
    have HF1 := hid hf1
    have Hg1 := hid hg1
    have HX1c := hid (HX1a.out.fr hf1 rfl)
    have HX2c := hid (HX2a.out.fr hf1 rfl)
    have HNc := hid (hf1.keep HNa.out Hg0.out rfl)
    clear hcut hp1 hf1 hg1 HMa HX1a HX2a HNa HGa
    obtain ⟨X, W, HTT, H0, hne0, HC⟩ := class_below wc
    have e1 : ∀ y, (W y).cell? ⟨pb, 0, none⟩ = some (.pointer (some ⟨T.bB, 0, none⟩)) := fun y => (HX2c.out.fr (Fr.below (HTT.out y) : Fr pX ρ1 wc ρ1 (W y)) rfl).cell
    have e2 : ∀ y, (W y).cell? ⟨T.bB, 0, none⟩ = some (.pointer (some ⟨L.hB, 0, none⟩)) := fun y => (HM1.out.below (HTT.out y)).bm.gcells.1
    have e3 : ∀ y, (W y).cell? ⟨g, 0, none⟩ = some (.int .u64 (f : Int)) := fun y => (HNc.out.below (HTT.out y)).cell 0
    obtain ⟨x, hx⟩ : ∃ x, G.word s = x := ⟨_, rfl⟩
    have Hx := hid hx
    have HRA : Hid (∀ y, Calls Try.prog 26 #[.pointer (some ⟨L.hB, 0, none⟩), .int .u64 (f : Int)] (W y) fun e w' => e = .returned (.int .u64 (x : Int)) ∧ Below (W y).heap.size (W y) w') := hid (fun y => by
      have := refAt_walk (HM1.out.below (HTT.out y)).bm.gm Hs.out.1 Hs.out.2
      rw [Hx.out] at this
      exact this)
    clear hx
    go_upto_region 3 with fail
    refine wp_region_class W (by kernel_rfl) (by kernel_rfl) H0.out ?_
    repeat (go_big_quiet_step ((go_at_call 26; exact Calls.class_of HC.out (HRA.out _))))
    refine wpQuiet_nil ?_
    intro z
    have HZ := hid (HTT.out z)
    generalize W z = wz at HZ ⊢
    have HMz := hid (HM1.out.below HZ.out)
    have HFz : Hid (Fr pX ρ w ρ1 wz) := hid (((Fr.below HBa.out : Fr pX ρ w ρ wa).trans HF1.out).trans (Fr.below HZ.out))
    have HX1z := hid (HX1c.out.fr (Fr.below HZ.out : Fr pX ρ1 wc ρ1 wz) rfl)
    have HLen : Hid (((hlog1 hv o) 0).length ≤ 1000000000000) := hid (by
      unfold hlog1 hput
      by_cases ho : o = 0
      · rw [if_pos ho]; exact Hl.out 0 (by decide)
      · rw [if_neg ho, fup_ne _ _ (by decide)]; exact Hl.out 0 (by decide))
    have HGo : Hid (∀ h3, hlog2 (hlog1 hv o) x = h3 → hlog G hv (f, o) = h3) := hid (fun h3 e => by
      unfold hlog
      dsimp only
      rw [offA_eq Hs.out.1, Hx.out]
      exact e)
    clear e1 e2 e3 H0 HTT HC hne0 HRA HM1 HF1 HX1c HX2c HNc HX1 HX2 HH HBa
    by_cases hx0 : x = 0
    · as_aux_lemma =>
      have dx : ((x : Int) != 0) = false := by simp; omega
      have HR : Hid (HlP w ρ L T hB G B (hlog G hv (f, o)) wz) := hid ⟨V1, ρ1, by rw [HGo.out _ (show hlog2 (hlog1 hv o) x = hlog1 hv o by unfold hlog2; rw [if_pos hx0])]; exact HMz.out, HFz.out⟩
      go_wp2
      exact bodyPost_end (v := .tuple #[]) (by simp [results, Try.results91, go_sem]) rfl ⟨rfl, HR.out⟩
    · as_aux_lemma =>
      have dx : ((x : Int) != 0) = true := by simp; omega
      generalize hlog1 hv o = hv1 at HMz HLen HGo
      obtain ⟨ax, k, hV⟩ := (HMz.out.hm.rw 0 (by decide)).shape
      obtain ⟨n, hn⟩ : ∃ n, (hv1 0).length = n := ⟨_, rfl⟩
      rw [hn] at hV
      have HV := hid hV
      have Hn := hid hn
      have HS : Hid (∀ wx : World, Below wz.heap.size wz wx → wx.cell? ⟨ph, 0, none⟩ = some (.pointer (some ⟨hB, 0, none⟩)) ∧ wx.cell? ⟨hB, 0, none⟩ = some (.slice ax n k)) := hid (fun wx hx => ⟨(HX1z.out.fr (Fr.below hx : Fr pX ρ1 wz ρ1 wx) rfl).cell, by rw [← HV.out]; exact (HMz.out.below hx).hcell (by decide)⟩)
      clear hV hn
      go_upto_region 5 with fail
      refine wp_region_heavy (fun wx => wx.cell? ⟨ph, 0, none⟩ = some (.pointer (some ⟨hB, 0, none⟩)) ∧ wx.cell? ⟨hB, 0, none⟩ = some (.slice ax n k)) 8 [0, 1, 2, 3, 4, 5] [6, 7] rfl (by kernel_rfl) (by kernel_rfl) (fun d _ _ _ _ h => by cases d <;> exact h) (HS.out _ (Drew.below ⟨1, rfl⟩ _)) ?_
      apply Exists.intro
      refine ⟨?_, ?_⟩
      · intro W hW
        have e1 := fun x => (hW x).1
        have e2 := fun x => (hW x).2
        simp only [List.take, opsAt, List.drop, List.cons_append, List.nil_append]
        repeat (go_big_quiet_step (fail))
        exact rfl
      simp only [List.take, List.drop, opsAt, List.cons_append, List.nil_append, wpHv]
      have HBd : Hid (Below wz.heap.size wz wz.drew) := hid (Drew.below ⟨1, rfl⟩ _)
      generalize wz.drew = wd at HBd ⊢
      go_wp2_with fail
      obtain ⟨wf, hwf⟩ : ∃ wf, wd.alloc (.cells #[.int .u64 (x : Int)] 48) = wf := ⟨_, rfl⟩
      have HBf : Hid (Below wz.heap.size wz wf) := hid (by rw [← hwf]; exact HBd.out.trans ((nbel wd _).mono HBd.out.size))
      have HNw : Hid (∀ ad, some (⟨wd.heap.size, 0, none⟩ : Addr) = some ad → ∀ j u, ([x].flatMap rtA.f)[j]? = some u → wf.cell? (ad.add j) = some u) := hid (by rw [← hwf]; exact newX rtA wd x _ rfl)
      (try simp only [hwf])
      refine ⟨HS.out _ HBf.out, ?_⟩
      clear hwf
      have HHf := hid (HMz.out.below HBf.out)
      have hrf := HHf.out.hm.rw 0 (by decide)
      rw [HV.out] at hrf
      refine wpList_app_x okA rfl (.tmp 32) (.tmp 34) hrf rfl [x] (by simp [Act.eval, Act.put]; done) (some ⟨wd.heap.size, 0, none⟩) 1 1 (by simp [Act.eval, Act.put]; done) rfl (fun h => by cases h) HNw.out (by have := HLen.out; show ((hv1 0).length + 1) * 8 ≤ _; omega) ?_
      intro v8 w8 ρ8 hr8 hf8 _ _
      obtain ⟨a8, k8, h8⟩ := hr8.out.shape
      rw [List.length_append, List.length_singleton, Hn.out] at h8
      subst h8
      have HM8 := hid (HHf.out.app (by decide) hf8.out hr8.out)
      have hbk : ∀ x, x < wf.heap.size → ρ1 x ≠ 41 → w8.heap[x]? = wf.heap[x]? := fun x hx hne => hf8.out.blk x hx (by show (ρ1 x == 41) = false; simp; exact hne)
      have s1 : w8.cell? ⟨ph, 0, none⟩ = some (.pointer (some ⟨hB, 0, none⟩)) := by rw [World.cell?_of_block (hbk ph (Nat.lt_of_lt_of_le HX1z.out.1.lt HBf.out.size) (by rw [HX1z.out.2]; decide))]; exact (HS.out _ HBf.out).1
      have s2 : w8.cell? ⟨hB, 0, none⟩ = some (.slice ax n k) := by rw [World.cell?_of_block (hbk hB HHf.out.hm.bl.lt (by rw [HHf.out.hm.ro]; decide))]; exact (HS.out _ HBf.out).2
      have f2 : w8.frozen? ⟨hB, 0, none⟩ = false := by rw [World.frozen?_of_block (hbk hB HHf.out.hm.bl.lt (by rw [HHf.out.hm.ro]; decide))]; exact HHf.out.hm.bl.frozen _
      have HR : Hid (HlP w ρ L T hB G B (hlog G hv (f, o)) (w8.setCell ⟨hB, 0, none⟩ (.slice a8 (n + 1) k8))) := hid ⟨_, ρ8, by rw [HGo.out _ (show hlog2 hv1 x = fup hv1 0 (hv1 0 ++ [x]) by unfold hlog2 hput; rw [if_neg hx0])]; exact HM8.out.1, (HFz.out.trans (Fr.below HBf.out)).trans (HM8.out.2.mono (fun c => pX_app (by decide)))⟩
      clear hrf hr8 hf8 HHf HNw HBf HBd HM8 hbk
      go_wp2_with fail
      refine ⟨⟨s1, s2⟩, ?_⟩
      simp only [QN]
      go_wp2
      exact bodyPost_end (v := .tuple #[]) (by simp [results, Try.results91, go_sem]) rfl ⟨rfl, HR.out⟩
end
end Go.Proofs.Qxb6500888a
