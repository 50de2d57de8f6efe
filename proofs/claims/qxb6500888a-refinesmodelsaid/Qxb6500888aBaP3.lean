/- The barrier: all, harvestRoots. -/
import Derived.Test.Qxb6500888aBaP2
namespace Go.Proofs.Qxb6500888a
open Go.RowKit
set_option linter.unusedSimpArgs false
set_option linter.unusedVariables false

/-- Roles that a pause writes behind the roots' harvest. -/
def zX (c : Nat) : Bool := decide ((1 ≤ c ∧ c ≤ 12) ∨ (16 ≤ c ∧ c ≤ 63))
theorem zX_g {c : Nat} (h : gX c = true) : zX c = true := by
  have := of_decide_eq_true h
  exact decide_eq_true (by omega)
theorem pX_z {c : Nat} (h : zX c = true) : pX c = true := by
  have := of_decide_eq_true h
  exact decide_eq_true (by omega)
theorem zX_app {i c : Nat} (hi : i < 8) (hc : (c == 41 + i || c == 40) = true) : zX c = true := by
  simp at hc
  exact decide_eq_true (by omega)
theorem RowX.of1 {α : Type} {K : RK α} {w w' : World} {ρ ρ' : Rl} {c : Nat} {v : Value} {xs : List α} (h : RowX K w ρ c v xs) (hb : ∀ g, v.ownBlock = some g → w'.heap[g]? = w.heap[g]? ∧ ρ' g = ρ g) : RowX K w' ρ' c v xs := by
  obtain ⟨h1, h2⟩ := h
  obtain ⟨h3, h4⟩ := h1
  rcases h4 with ⟨rfl, h5⟩ | ⟨g, cap, cur, rfl, h5, h6, h7⟩
  · exact ⟨⟨h3, .inl ⟨rfl, h5⟩⟩, fun g hg => by cases hg⟩
  · obtain ⟨e1, e2⟩ := hb g rfl
    exact ⟨⟨h3, .inr ⟨g, cap, cur, rfl, h5, by rw [e1]; exact h6, h7⟩⟩, fun g' hg' => by cases hg'; rw [e2]; exact h2 g rfl⟩
theorem RowX.olt {α : Type} {K : RK α} {w : World} {ρ : Rl} {c : Nat} {v : Value} {xs : List α} (h : RowX K w ρ c v xs) {g : Nat} (hg : v.ownBlock = some g) : g < w.heap.size := (h.own.lt g hg).2
/-- A row of roots, apart from the last pause's. -/
structure RtM (w : World) (ρ : Rl) (lv v : Value) (xs : List Nat) : Prop where
  row : RowX rtA w ρ 13 v xs
  ap : ∀ g, v.ownBlock = some g → lv.ownBlock ≠ some g
section
variable {x : Nat} {X : Nat → Bool} {w w' : World} {ρ ρ' : Rl} {L L' : GL} {T T' : BL} {hB : Nat} {V : Nat → Value} {G G' : GS} {B B' : BS} {hv : Nat → List Nat}
theorem RtM.fr {lv v : Value} {xs : List Nat} (h : RtM w ρ lv v xs) (hf : Fr X ρ w ρ' w') (hX : X 13 = false) : RtM w' ρ' lv v xs := ⟨h.row.fr hf hX, h.ap⟩
theorem BMx.open5 (h : BM w ρ L T G B) : BMx 5 w ρ L T G B := ⟨h.gm, h.bb, h.rb, h.fr, h.lr, fun e => absurd rfl e, fun e => absurd rfl e, fun m hm hne => h.sg m hm (by omega), h.fs, h.nd, h.rs, h.rl, fun e => h.md (by decide)⟩
theorem PMx.open5 (h : PM w ρ L T hB V G B hv) : PMx 5 w ρ L T hB V G B hv := ⟨h.bm.open5, h.hm⟩
/-- A row of roots grows. -/
theorem PMx.rows13 (h : PMx 5 w ρ L T hB V G B hv) (hf : Fr (fun r => r == 13) ρ w ρ' w') (hl : ∀ g, T.lv.ownBlock = some g → w'.heap[g]? = w.heap[g]?) : PMx 5 w' ρ' L T hB V G B hv := by
  have b := h.bm
  have hg : GM w' ρ' L G := (GMh.but b.gm hf).full (fun c hc => by
    have := of_decide_eq_true hc
    show (c == 13) = false
    simp
    omega)
  have hk : ∀ s ∈ allS T, w'.heap[s]? = w.heap[s]? := fun s hs => hf.blk s (b.lts hs) (by rw [b.rs s hs]; rfl)
  refine ⟨⟨hg, hf.keep b.bb b.rb rfl, by rw [hf.old _ b.bb.lt]; exact b.rb, fun m hm => (b.fr m hm).fr hf (by show (16 + m == 13) = false; simp; omega), b.lr.of1 (fun g hg => ⟨hl g hg, hf.old g (b.lr.olt hg)⟩), fun e => absurd rfl e, fun e => absurd rfl e, fun m hm hx => (b.sg m hm hx).fr (fun s hs => hk s (allS_m hm hs)), b.fs.fr (fun s hs => hk s (allS_f hs)), b.nd, fun s hs => by rw [hf.old s (b.lts hs)]; exact b.rs s hs, b.rl, b.md⟩, h.hm.fr hf rfl (fun i hi => by show (41 + i == 13) = false; simp; omega)⟩
theorem BMx.rcell (h : BMx x w ρ L T G B) : w.cell? ⟨T.bB, 281, none⟩ = some T.lv ∧ w.cell? ⟨T.bB, 282, none⟩ = some T.sv := by
  refine ⟨?_, ?_⟩
  · rw [h.ecell (by decide) (by decide)]; rfl
  · rw [h.ecell (by decide) (by decide)]; rfl
set_option maxRecDepth 1000000 in
set_option maxHeartbeats 2000000 in
theorem all_walk (h : BMx x w ρ L T G B) {m : Nat} (hm : m < 4) : Calls Try.prog 93 #[.pointer (some ⟨T.bB, 3 + m * 69 + 3, none⟩)] w fun e w' => e = .returned (.slice (some ⟨T.bB, 3 + m * 69 + 3, none⟩) (B.roots m).length 64) ∧ Below w.heap.size w w' := by
  have hl := h.rl m
  obtain ⟨o, ho⟩ : ∃ o, 3 + m * 69 + 3 = o := ⟨_, rfl⟩
  obtain ⟨X, W, HTT, H0, hne, HC⟩ := class_below w
  have d1 : ∀ y, (W y).cell? ⟨T.bB, o + 64, none⟩ = some (.int .i64 ((B.roots m).length : Int)) := fun y => by
    have := (h.below (HTT.out y)).depth hm
    rw [show 3 + m * 69 + 67 = o + 64 by omega] at this
    exact this
  rw [ho]
  generalize (B.roots m).length = n at d1 hl ⊢
  have i1 : (n : Int) ≤ 64 := by omega
  clear h hm ho
  go_enter Try.func93, Try.ntmps93
  go_upto_region 1 with fail
  refine wp_region_class W (by kernel_rfl) (by kernel_rfl) H0.out ?_
  repeat (go_big_quiet_step (fail))
  refine wpQuiet_nil ?_
  intro z
  have HZ := hid (HTT.out z)
  generalize W z = wz at HZ ⊢
  clear d1 H0 HTT HC hne
  go_wp2
  go_ret
  exact ⟨rfl, HZ.out⟩
def rootsK (B : BS) (k : Nat) : List Nat := (List.range k).flatMap B.roots
theorem rootsK_s (B : BS) (k : Nat) : rootsK B (k + 1) = rootsK B k ++ B.roots k := by
  unfold rootsK
  rw [List.range_succ, List.flatMap_append]
  simp
theorem rootsK_len (h : ∀ m, (B.roots m).length ≤ 64) : ∀ k, (rootsK B k).length ≤ 64 * k
  | 0 => by simp [rootsK]
  | k + 1 => by
    rw [rootsK_s, List.length_append]
    have := rootsK_len h k
    have := h k
    omega
def hroots (B : BS) (hv : Nat → List Nat) : Nat → List Nat := fup (fup hv 2 (hv 2 ++ rootsK B 4)) 3 (hv 3 ++ B.last)
theorem flatA_get (l : List Nat) (j : Nat) : (l.flatMap rtA.f)[j]? = l[j]?.map fun (x : Nat) => (.int .u64 (x : Int) : Value) := by
  have : l.flatMap rtA.f = l.map fun (x : Nat) => (.int .u64 (x : Int) : Value) := by
    induction l with
    | nil => rfl
    | cons a l ih => rw [List.flatMap_cons, ih]; rfl
  rw [this, List.getElem?_map]
set_option maxRecDepth 1000000 in
set_option maxHeartbeats 8000000 in
theorem harvestRoots_walk (h : PM w ρ L T hB V G B hv) (hl : ∀ i, (hv i).length ≤ 100000000000) (hn : B.last.length ≤ 1000000000) :
    Calls Try.prog 74 #[.pointer (some ⟨T.bB, 0, none⟩), .pointer (some ⟨hB, 0, none⟩)] w fun e w' => ∃ v V' ρ', e = .returned v ∧ PMx 5 w' ρ' L T hB V' G B (hroots B hv) ∧ RtM w' ρ' T.lv v (rootsK B 4) ∧ Fr pX ρ w ρ' w' := by
  have Hl := hid (And.intro hl hn)
  have HH := hid h.open5
  have Hrl := hid h.bm.rl
  obtain ⟨ax, k0, hsv⟩ := (h.bm.sp (by decide)).shape
  have c1 := h.bm.rcell.2
  rw [hsv] at c1
  have c1' : w.cell? ⟨T.bB, 282, none⟩ = some (.slice ax 0 k0) := c1
  have hcap : k0 ≤ maxLen := by
    have := h.bm.sp (by decide)
    rw [hsv] at this
    exact this.cap.1
  have i0 : (k0 : Int) ≤ 9223372036854775807 := by unfold maxLen at hcap; omega
  have HR0 : Hid (RtM w ρ T.lv (.slice ax 0 k0) (rootsK B 0)) := hid (by
    have h1 := h.bm.sp (by decide)
    have h2 := h.bm.ls (by decide)
    rw [hsv] at h1 h2
    exact ⟨h1, fun g hg e => h2 g e hg⟩)
  clear h hl hn hsv c1 hcap
  go_enter Try.func74, Try.ntmps74
  go_wp2_with fail
  go_loopw [5, 12] (fun v5 v12 wr => ∃ (k n c : Nat) (a : Option Addr) (ρ1 : Rl), k ≤ 4 ∧ v12 = .int .i64 (k : Int) ∧ v5 = .slice a n c ∧ Hid (PMx 5 wr ρ1 L T hB V G B hv) ∧ Hid (RtM wr ρ1 T.lv (.slice a n c) (rootsK B k)) ∧ Hid (Fr pX ρ w ρ1 wr)) (fun _ v _ => 4 - (intOf v).toNat)
  case atStart => exact ⟨0, 0, k0, ax, ρ, by omega, rfl, rfl, HH, HR0, hid (Fr.refl _ _ _)⟩
  case round =>
    obtain ⟨k, n, c, a, ρ1, hk, rfl, rfl, HM1, HR1, HF1⟩ := hrel
    clear HH HR0 c1'
    by_cases hk4 : k < 4
    · as_aux_lemma =>
      have dk : decide ((k : Int) < 4) = true := decide_eq_true (by omega)
      have ik : (k : Int) < 4 := by omega
      have HA := hid (all_walk HM1.out.bm hk4)
      go_wp2_with fail
      refine HA.out.mono ?_
      rintro e2 w2 ⟨rfl, hb2⟩
      have HM2 := hid (HM1.out.below hb2)
      have HR2 := hid (HR1.out.fr (Fr.below hb2 : Fr pX ρ1 wr ρ1 w2) |> fun f => (HR1.out.fr (X := fun _ => false) (Fr.below hb2) rfl))
      have HF2 : Hid (Fr pX ρ w ρ1 w2) := hid (HF1.out.trans (Fr.below hb2))
      clear HA hb2 HM1 HR1 HF1
      go_wp2_with (at_builtin; refine stopHere ?_)
      intro _
      have hlen := Hrl.out k
      have hlr := rootsK_len Hrl.out k
      refine wpList_app_x okA rfl _ _ HR2.out.row rfl (B.roots k) rfl (some ⟨T.bB, 3 + k * 69 + 3, none⟩) (B.roots k).length 64 rfl rfl (fun h => by cases h) (fun ad had j u hu => by
        cases had
        rw [flatA_get] at hu
        obtain ⟨y, hy, rfl⟩ := Option.map_eq_some_iff.1 hu
        have hj := (List.getElem?_eq_some_iff.1 hy).1
        have := HM2.out.bm.slot hk4 (k := j) (by omega)
        rw [show (B.roots k).getD j 0 = y by simp [List.getD, hy]] at this
        have e : (⟨T.bB, 3 + k * 69 + 3, none⟩ : Addr).add j = ⟨T.bB, 3 + k * 69 + (3 + j), none⟩ := by unfold Addr.add; split <;> simp_all <;> omega
        rw [e]
        exact this) (by show ((rootsK B k).length + (B.roots k).length) * 8 ≤ _; omega) ?_
      intro v8 w8 ρ8 hr8 hf8 ho8 hk8
      obtain ⟨a8, k8, h8⟩ := hr8.out.shape
      subst h8
      have hx : ∀ g, (Value.slice a n c).ownBlock = some g → T.lv.ownBlock ≠ some g := HR2.out.ap
      have HM8 : Hid (PMx 5 w8 ρ8 L T hB V G B hv) := hid (HM2.out.rows13 hf8.out (fun g hg => hk8.out g (HM2.out.bm.lr.olt hg) (fun g' hg' e => hx g' hg' (by rw [← e]; exact hg))))
      have HR8 : Hid (RtM w8 ρ8 T.lv (.slice a8 (rootsK B k ++ B.roots k).length k8) (rootsK B (k + 1))) := hid ⟨by rw [rootsK_s]; exact hr8.out, fun g hg e => by
        rcases ho8 g hg with h1 | h1
        · exact hx g h1 e
        · have := HM2.out.bm.lr.olt e; omega⟩
      have HF8 : Hid (Fr pX ρ w ρ8 w8) := hid (HF2.out.trans (hf8.out.mono (fun c => pX_of (by decide))))
      clear hr8 hf8 ho8 hk8 hx HM2 HR2 HF2
      generalize (rootsK B k ++ B.roots k).length = n8 at HR8 ⊢
      go_wp2
      exact ⟨⟨k + 1, n8, k8, a8, ρ8, by omega, by go_num, rfl, HM8, HR8, HF8⟩, by simp [intOf]; omega⟩
    · have dk : decide ((k : Int) < 4) = false := decide_eq_false (by omega)
      obtain rfl : k = 4 := by omega
      as_aux_lemma =>
      obtain ⟨a2, q2, hV2⟩ := (HM1.out.hm.rw 2 (by decide)).shape
      have c2 := HM1.out.hcell (i := 2) (by decide)
      rw [hV2] at c2
      have HV2 := hid hV2
      obtain ⟨n2, hn2⟩ : ∃ n, (hv 2).length = n := ⟨_, rfl⟩
      rw [hn2] at c2 HV2
      have Hn2 := hid hn2
      have hsrc := HR1.out.row.src
      have Hsrc := hid hsrc
      clear hV2 hn2 hsrc
      go_upto_region 7 with fail
      go_wp2_with (at_builtin; refine stopHere ?_)
      intro _
      have hlr := rootsK_len Hrl.out 4
      have hrf := HM1.out.hm.rw 2 (by decide)
      rw [HV2.out] at hrf
      refine wpList_app_x okA rfl _ _ hrf rfl (rootsK B 4) rfl a n c rfl Hsrc.out.2.2 Hsrc.out.2.1 Hsrc.out.1 (by have := Hl.out.1 2; have := Hsrc.out.2.2; show ((hv 2).length + n) * 8 ≤ _; omega) ?_
      intro v8 w8 ρ8 hr8 hf8 _ _
      obtain ⟨a8, k8, h8⟩ := hr8.out.shape
      subst h8
      have HM8 := hid (HM1.out.app (by decide) hf8.out hr8.out)
      have hk8 : w8.heap[hB]? = wr.heap[hB]? := hf8.out.blk _ HM1.out.hm.bl.lt (by rw [HM1.out.hm.ro]; rfl)
      have c8 : w8.cell? ⟨hB, 2, none⟩ = some (.slice a2 n2 q2) := by rw [World.cell?_of_block hk8]; exact c2
      have f8 : w8.frozen? ⟨hB, 2, none⟩ = false := by rw [World.frozen?_of_block hk8]; exact HM1.out.hm.bl.frozen _
      have HF8 := hid (HF1.out.trans (HM8.out.2.mono (fun c => pX_app (by decide))))
      have HR8 := hid (HR1.out.fr HM8.out.2 rfl)
      clear hrf hr8 hf8 hk8 c2 HM1 HF1 HR1
      generalize (hv 2 ++ rootsK B 4).length = n8 at HM8 c8 HR8 HF8 ⊢
      go_upto_region 8 with fail
      generalize w8.setCell ⟨hB, 2, none⟩ (.slice a8 n8 k8) = w9 at HM8 HF8 HR8 ⊢
      have HM9 := hid HM8.out.1
      clear c8 f8 HM8
      obtain ⟨V9, hV9⟩ : ∃ V9, fup V 2 (.slice a8 n8 k8) = V9 := ⟨_, rfl⟩
      rw [hV9] at HM9
      clear hV9
      obtain ⟨hv9, hhv9⟩ : ∃ h9, fup hv 2 (hv 2 ++ rootsK B 4) = h9 := ⟨_, rfl⟩
      have Hhv9 := hid hhv9
      rw [hhv9] at HM9
      have h93 : hv9 3 = hv 3 := by rw [← hhv9]; exact fup_ne _ _ (by decide)
      clear hhv9
      obtain ⟨a3, q3, hV3⟩ := (HM9.out.hm.rw 3 (by decide)).shape
      rw [h93] at hV3
      have HV3 := hid hV3
      obtain ⟨al, ql, hVl⟩ := HM9.out.bm.lr.shape
      have HVl := hid hVl
      obtain ⟨n3, hn3⟩ : ∃ n, (hv 3).length = n := ⟨_, rfl⟩
      obtain ⟨nl, hnl⟩ : ∃ n, B.last.length = n := ⟨_, rfl⟩
      have Hn3 := hid (And.intro hn3 hnl)
      rw [hn3] at HV3
      rw [hnl] at HVl
      have H93 := hid h93
      have HS : Hid (∀ wx : World, Below w9.heap.size w9 wx → wx.cell? ⟨hB, 3, none⟩ = some (.slice a3 n3 q3) ∧ wx.cell? ⟨T.bB, 281, none⟩ = some (.slice al nl ql)) := hid (fun wx hx => ⟨by rw [← HV3.out]; exact (HM9.out.below hx).hcell (by decide), by rw [← HVl.out]; exact (HM9.out.below hx).bm.rcell.1⟩)
      clear hV3 hVl hn3 hnl h93
      refine wp_region_heavy (fun wx => wx.cell? ⟨hB, 3, none⟩ = some (.slice a3 n3 q3) ∧ wx.cell? ⟨T.bB, 281, none⟩ = some (.slice al nl ql)) 10 [0, 1, 2, 3, 4, 5, 6, 7, 8] [9] rfl (by kernel_rfl) (by kernel_rfl) (fun d _ _ _ _ h => by cases d <;> exact h) (HS.out _ (Drew.below ⟨1, rfl⟩ _)) ?_
      apply Exists.intro
      refine ⟨?_, ?_⟩
      · intro W hW
        have e1 := fun x => (hW x).1
        have e2 := fun x => (hW x).2
        simp only [List.take, opsAt, List.drop, List.cons_append, List.nil_append]
        repeat (go_big_quiet_step (fail))
        exact rfl
      simp only [List.take, List.drop, opsAt, List.cons_append, List.nil_append, wpHv]
      have HBd : Hid (Below w9.heap.size w9 w9.drew) := hid (Drew.below ⟨1, rfl⟩ _)
      generalize w9.drew = wd at HBd ⊢
      have HMd := hid (HM9.out.below HBd.out)
      have hrf := HMd.out.hm.rw 3 (by decide)
      rw [HV3.out] at hrf
      have hls := HMd.out.bm.lr
      rw [HVl.out] at hls
      have Hls := hid hls.src
      clear hls
      refine wpList_app_x okA rfl (.tmp 38) (.tmp 42) hrf rfl B.last (by simp [Act.eval, Act.put]; done) al nl ql (by simp [Act.eval, Act.put]; done) Hls.out.2.2 Hls.out.2.1 Hls.out.1 (by have := Hl.out.1 3; have := Hl.out.2; have := Hn3.out; rw [H93.out]; show ((hv 3).length + nl) * 8 ≤ _; omega) ?_
      intro v8 w8' ρ9 hr8 hf8 _ _
      obtain ⟨a9, k9, h9⟩ := hr8.out.shape
      subst h9
      have HMf := hid (HMd.out.app (by decide) hf8.out hr8.out)
      have hbk : ∀ x, x < wd.heap.size → ρ8 x ≠ 44 → w8'.heap[x]? = wd.heap[x]? := fun x hx hne => hf8.out.blk x hx (by show (ρ8 x == 44) = false; simp; exact hne)
      have s1 : w8'.cell? ⟨hB, 3, none⟩ = some (.slice a3 n3 q3) := by rw [World.cell?_of_block (hbk hB HMd.out.hm.bl.lt (by rw [HMd.out.hm.ro]; decide))]; exact (HS.out _ HBd.out).1
      have s2 : w8'.cell? ⟨T.bB, 281, none⟩ = some (.slice al nl ql) := by rw [World.cell?_of_block (hbk T.bB HMd.out.bm.bb.lt (by rw [HMd.out.bm.rb]; decide))]; exact (HS.out _ HBd.out).2
      have f2 : w8'.frozen? ⟨hB, 3, none⟩ = false := by rw [World.frozen?_of_block (hbk hB HMd.out.hm.bl.lt (by rw [HMd.out.hm.ro]; decide))]; exact HMd.out.hm.bl.frozen _
      have HFin : Hid (PMx 5 (w8'.setCell ⟨hB, 3, none⟩ (.slice a9 (hv9 3 ++ B.last).length k9)) ρ9 L T hB (fup V9 3 (.slice a9 (hv9 3 ++ B.last).length k9)) G B (hroots B hv) ∧ RtM (w8'.setCell ⟨hB, 3, none⟩ (.slice a9 (hv9 3 ++ B.last).length k9)) ρ9 T.lv (.slice a n c) (rootsK B 4) ∧ Fr pX ρ w ρ9 (w8'.setCell ⟨hB, 3, none⟩ (.slice a9 (hv9 3 ++ B.last).length k9))) := hid ⟨by
        have := HMf.out.1
        unfold hroots
        rw [Hhv9.out, ← H93.out]
        exact this, (HR8.out.fr (X := fun _ => false) (Fr.below HBd.out) rfl).fr HMf.out.2 rfl, (HF8.out.trans (Fr.below HBd.out)).trans (HMf.out.2.mono (fun c => pX_app (by decide)))⟩
      clear hrf hr8 hf8 hbk HMf HMd HBd HS HM9 HR8 HF8
      generalize (hv9 3 ++ B.last).length = n9 at HFin ⊢
      go_wp2_with fail
      refine ⟨⟨s1, s2⟩, ?_⟩
      simp only [QN]
      go_wp2
      refine bodyPost_ret (v := .slice a n c) (by simp [results, Try.results74, go_sem]) rfl ?_
      first
      | exact ⟨_, _, _, rfl, HFin.out⟩
      | exact ⟨_, rfl, _, _, HFin.out⟩
end
end Go.Proofs.Qxb6500888a
