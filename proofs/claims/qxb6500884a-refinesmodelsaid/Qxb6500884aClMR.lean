/- members: of a register whose table may stand. -/
import Derived.Test.Qxb6500884aClMch
import Derived.Test.Qxb6500884aClLaw
namespace Go.Proofs.Qxb6500884a
open Go.RowKit
set_option linter.unusedSimpArgs false
set_option linter.unusedVariables false

set_option maxRecDepth 100000 in
set_option maxHeartbeats 2000000 in
theorem members_new (r : Nat) (a : Option Addr) (n c : Nat) (l : List (Int × Int)) (w : World) (hb : Blk w r 40 [.slice a n c, .slice none 0 0]) (hr : IvRow w a n c l) (hN : Nrm l) (hag : 0 < n → ∀ b off, a = some ⟨b, off, none⟩ → b ≠ r) :
    Calls Try.prog 17 #[.pointer (some ⟨r, 0, none⟩)] w fun e w' => ∃ g, e = .returned (.slice (some ⟨g, 0, none⟩) 196608 196608) ∧ w.heap.size ≤ g ∧ Blk w' g 4 (tabL (fun i => memB l (i : Int))) ∧ Upd r w w' ∧ Blk w' r 40 [.slice a n c, .slice (some ⟨g, 0, none⟩) 196608 196608] := by
  have hn := hr.1.2.2.1.1
  have hl := hr.len
  have c0 : w.cell? ⟨r, 0, none⟩ = some (.slice a n c) := hb.cell 0
  have c1 : w.cell? ⟨r, 1, none⟩ = some (.slice none 0 0) := hb.cell 1
  have f1 := hb.frozen 1
  have hm := make_tab
  obtain ⟨g, hg⟩ : ∃ g, w.heap.size = g := ⟨_, rfl⟩
  have hrg : r < g := by have := hb.lt; omega
  have hnil := nil_eq
  have HR := hid hr
  have Hag := hid hag
  have hrg' : r ≠ g := by omega
  have HR1 : Hid (Rg w r g a n c (fun _ => false) ((w.setCell ⟨r, 1, none⟩ (.slice (some ⟨g, 0, none⟩) 196608 196608)).alloc (.cells (tabL fun _ => false).toArray 4))) := hid (by
    have h1 : Upd r w (w.setCell ⟨r, 1, none⟩ (.slice (some ⟨g, 0, none⟩) 196608 196608)) := (Upd.refl r w).setCell rfl _
    have h2 := Blk.new (w.setCell ⟨r, 1, none⟩ (.slice (some ⟨g, 0, none⟩) 196608 196608)) (tabL fun _ => false) 4
    rw [show (w.setCell ⟨r, 1, none⟩ (.slice (some ⟨g, 0, none⟩) 196608 196608)).heap.size = g by rw [← hg]; simp [World.setCell]] at h2
    exact ⟨h1.alloc _, h2, (hb.set 1 (.slice (some ⟨g, 0, none⟩) 196608 196608)).alloc _⟩)
  clear hr hag hb
  go_enter Try.func17, Try.ntmps17
  go_upto_region 3 with fail
  generalize (w.setCell ⟨r, 1, none⟩ (.slice (some ⟨g, 0, none⟩) 196608 196608)).alloc (.cells (tabL fun _ => false).toArray 4) = w1 at HR1 ⊢
  have d1 : w1.cell? ⟨r, 1, none⟩ = some (.slice (some ⟨g, 0, none⟩) 196608 196608) := HR1.out.rg.cell 1
  clear c0 c1 f1 hm hnil
  go_wp2_with fail
  go_loopw [18] (fun i wr => ∃ k : Nat, k ≤ 196608 ∧ i = .int .i64 k ∧ Hid (Rg w r g a n c (fun i => decide (i < k) && memB l (i : Int)) wr)) (fun i _ => 196608 - (intOf i).toNat)
  case atStart => exact ⟨0, by omega, rfl, hid (HR1.out.ext (fun i _ => by simp))⟩
  case round =>
    clear d1 HR1
    obtain ⟨k, hk, rfl, HG⟩ := hrel
    by_cases hlt : k < 196608
    rotate_left
    · have dk : decide ((k : Int) < 196608) = false := decide_eq_false (by omega)
      have HTe := hid (HG.out.ext (f' := fun i => memB l (i : Int)) (fun i hi => by rw [decide_eq_true (show i < k by omega), Bool.true_and]))
      have d1 : wr.cell? ⟨r, 1, none⟩ = some (.slice (some ⟨g, 0, none⟩) 196608 196608) := HG.out.rg.cell 1
      go_wp2
      go_ret
      exact ⟨g, rfl, by omega, HTe.out.tb, HTe.out.upd, HTe.out.rg⟩
    have dk : decide ((k : Int) < 196608) = true := decide_eq_true (by omega)
    have i2 : (k : Int) < 196608 := by omega
    obtain ⟨X, W, hT, hI⟩ := class_mk (Rg w r g a n c (fun i => decide (i < k) && memB l (i : Int)))
    have HCl : Hid (∀ x w', Below (W x).heap.size (W x) w' → ∃ y, w' = W y) := hid (fun x w' hb => hI _ ((hT x).below hb))
    have H0 : Hid (∃ x, wr.drew = W x) := hid (hI _ (HG.out.below (Drew.below ⟨1, rfl⟩ _)))
    have hne : Nonempty X := ⟨H0.out.choose⟩
    have d0 : ∀ x, (W x).cell? ⟨r, 0, none⟩ = some (.slice a n c) := fun x => (hT x).rg.cell 0
    have d1 : ∀ x, (W x).cell? ⟨r, 1, none⟩ = some (.slice (some ⟨g, 0, none⟩) 196608 196608) := fun x => (hT x).rg.cell 1
    obtain ⟨B, hB⟩ : ∃ B, memB l (k : Int) = B := ⟨_, rfl⟩
    have HCo : Hid (∀ x, Calls Try.prog 18 #[.agg #[.slice a n c], .int .i64 (k : Int)] (W x) fun e w' => e = .returned (.bool B) ∧ Below (W x).heap.size (W x) w') := hid (fun x => by rw [← hB]; exact contains_walk a n c l (k : Int) (W x) (HR.out.upd (hT x).upd Hag.out) hN)
    have HTT := hid hT
    have HBv := hid hB
    clear hT hI hB
    go_upto_region 6 with fail
    refine wp_region_class_lastT W rfl (by kernel_rfl) (by kernel_rfl) (by kernel_rfl) H0.out ?_
    dsimp only [List.dropLast, List.getLast]
    repeat (go_big_quiet_step ((go_at_call 18; exact Calls.class_of HCl.out (HCo.out _))))
    refine wpQuiet_nil ?_
    intro z
    have HZ := hid (HTT.out z)
    generalize W z = wz at HZ ⊢
    clear d0 d1 HCl H0 HTT HCo
    have cg : wz.cell? ⟨g, k, none⟩ = some (.bool (decide (k < k) && memB l (k : Int))) := by rw [HZ.out.tb.cell]; exact tabL_get _ hlt
    have fg := HZ.out.tb.frozen k
    have HZ2 : Hid (Rg w r g a n c (fun i => decide (i < k + 1) && memB l (i : Int)) (wz.setCell ⟨g, k, none⟩ (.bool B))) := hid ((HZ.out.set (by omega) hrg' hlt B).ext (fun i hi => by
      by_cases h : i = k
      · subst h
        rw [if_pos rfl, decide_eq_true (by omega), Bool.true_and, HBv.out]
      · rw [if_neg h]
        have : decide (i < k) = decide (i < k + 1) := by rw [decide_eq_decide]; omega
        rw [this]))
    go_wp2
    exact ⟨⟨k + 1, by omega, by go_num, HZ2⟩, by simp [intOf]; omega⟩
theorem some_ne (g : Nat) (w : World) : (binOp .eql 34 (.slice (some ⟨g, 0, none⟩) 196608 196608) (.slice none 0 0)).run Try.prog w = .ok (.bool false) w := by kernel_rfl
set_option maxRecDepth 100000 in
set_option maxHeartbeats 2000000 in
theorem members_old (r g : Nat) (a : Option Addr) (n c : Nat) (w : World) (hb : Blk w r 40 [.slice a n c, .slice (some ⟨g, 0, none⟩) 196608 196608]) :
    Calls Try.prog 17 #[.pointer (some ⟨r, 0, none⟩)] w fun e w' => e = .returned (.slice (some ⟨g, 0, none⟩) 196608 196608) ∧ Below w.heap.size w w' := by
  have c1 : w.cell? ⟨r, 1, none⟩ = some (.slice (some ⟨g, 0, none⟩) 196608 196608) := hb.cell 1
  have hnil := some_ne g
  go_enter Try.func17, Try.ntmps17
  go_wp2
  go_ret
  exact ⟨rfl, Below.refl _ _⟩
structure MemP (r : Nat) (l : List (Int × Int)) (w : World) (e : Ending) (g : Nat) (w' : World) : Prop where
  end_ : e = .returned (.slice (some ⟨g, 0, none⟩) 196608 196608)
  tb : Blk w' g 4 (tabL (fun i => memB l (i : Int)))
  upd : Upd r w w'
  reg : RegOk w' r l
theorem members_reg (r : Nat) (l : List (Int × Int)) (w : World) (h : RegOk w r l) :
    Calls Try.prog 17 #[.pointer (some ⟨r, 0, none⟩)] w fun e w' => ∃ g, MemP r l w e g w' := by
  obtain ⟨a, n, c, tb, h1, h2, h3, h4⟩ := h.out
  rcases h4 with rfl | ⟨g, rfl, h5⟩
  · refine (members_new r a n c l w h1 h2 h.nrm (h3.ne h1 (by decide))).mono ?_
    rintro e w' ⟨g, rfl, hg, hb, hu, hr⟩
    exact ⟨g, rfl, hb, hu, h.nrm, a, n, c, _, hr, h2.upd hu (h3.ne h1 (by decide)), h3.upd h1 (by decide) hu, .inr ⟨g, rfl, hb⟩⟩
  · refine (members_old r g a n c w h1).mono ?_
    rintro e w' ⟨rfl, hb⟩
    exact ⟨g, rfl, h5.below hb, ⟨hb.os, hb.tape, hb.output, hb.size, fun k hk _ => hb.block k hk⟩, h.below hb⟩
theorem Blk.inj2 {w : World} {g : Nat} {t t' : TypeId} {ds ds' : List Value} (h : Blk w g t ds) (h' : Blk w g t' ds') : t = t' ∧ ds = ds' := by
  unfold Blk at h h'
  rw [h] at h'
  injection h' with h'
  injection h' with h1 h2
  exact ⟨h2, by simpa using h1⟩
theorem Blk.updT {w w' : World} {r g : Nat} {t t' : TypeId} {ds ds' : List Value} (h : Blk w g t ds) (hr : Blk w r t' ds') (ht : t ≠ t') (hu : Upd r w w') : Blk w' g t ds := by
  have hne : g ≠ r := fun e => by subst e; exact ht (h.inj2 hr).1
  unfold Blk
  rw [hu.block g h.lt hne]
  exact h
theorem RegOk.memb {w w' : World} {r p : Nat} {l lp : List (Int × Int)} (h : RegOk w r l) (h' : RegOk w' r l) (hu : Upd r w w') (hp : RegOk w p lp) : RegOk w' p lp := by
  obtain ⟨a, n, c, tb, h1, h2, h3, h4⟩ := h.out
  obtain ⟨a', n', c', tb', p1, p2, p3, p4⟩ := hp.out
  by_cases e : p = r
  · subst e
    obtain ⟨_, e2⟩ := h1.inj2 p1
    injection e2 with e2 e3
    injection e2 with e2 e4 e5
    subst e2 e4 e5
    rw [← h2.inj p2]
    exact h'
  · refine ⟨hp.nrm, a', n', c', tb', ?_, p2.upd hu (p3.ne h1 (by decide)), p3.upd h1 (by decide) hu, ?_⟩
    · unfold Blk
      rw [hu.block p p1.lt e]
      exact p1
    · rcases p4 with p4 | ⟨g, p4, p5⟩
      · exact .inl p4
      · exact .inr ⟨g, p4, p5.updT h1 (by decide) hu⟩
theorem Fl.updT {w w' : World} {t t' : TypeId} {a : Option Addr} {n c r : Nat} {cs ds : List Value} (h : Fl w t a n c cs) (hr : Blk w r t' ds) (ht : t ≠ t') (hu : Upd r w w') : Fl w' t a n c cs := h.of fun k ds' hk hc => hc.updT hr ht hu
theorem Mach.memb {mb r : Nat} {a : Option Addr} {S : List (Nat × List (Int × Int))} {w w' : World} {l : List (Int × Int)} (h : Mach mb a S w) (hr : RegOk w r l) (hr' : RegOk w' r l) (hu : Upd r w w') : Mach mb a S w' := by
  obtain ⟨c, h1, h2⟩ := h.out
  obtain ⟨_, _, _, _, b1, _⟩ := hr.out
  exact ⟨h.len, ⟨c, h1.updT b1 (by decide) hu, h2.updT b1 (by decide) hu⟩, fun p hp => hr.memb hr' hu (h.regs p hp)⟩
theorem MW.memb {w0 w w' : World} {mb r : Nat} {a : Option Addr} {S : List (Nat × List (Int × Int))} {l : List (Int × Int)} (h : MW w0 mb a S w) (hr : RegOk w r l) (hr' : RegOk w' r l) (hu : Upd r w w') (hw : w0.heap.size ≤ r) : MW w0 mb a S w' :=
  ⟨h.bel.trans ⟨hu.os, hu.tape, hu.output, hu.size, fun k hk => hu.block k (by have := h.bel.size; omega) (by omega)⟩, h.mach.memb hr hr' hu, h.mbw, h.ab, h.rw⟩
end Go.Proofs.Qxb6500884a
