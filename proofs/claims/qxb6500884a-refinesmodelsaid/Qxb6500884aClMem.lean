/- members, Intervals. -/
import Derived.Test.Qxb6500884aClTab
import Derived.Test.Qxb6500884aLastT
import Derived.Test.Qxb6500884aOwn
namespace Go.Proofs.Qxb6500884a
open Go.RowKit
set_option linter.unusedSimpArgs false
set_option linter.unusedVariables false

theorem IvRow.upd {w w' : World} {a : Option Addr} {n c g : Nat} {l : List (Int × Int)} (h : IvRow w a n c l) (hu : Upd g w w') (hag : 0 < n → ∀ b off, a = some ⟨b, off, none⟩ → b ≠ g) : IvRow w' a n c l := by
  refine ⟨⟨h.1.1, h.1.2.1, h.1.2.2.1, fun i hi => ?_⟩, h.2⟩
  obtain ⟨b, off, ha, hlt, hc⟩ := h.1.2.2.2 i hi
  refine ⟨b, off, ha, Nat.lt_of_lt_of_le hlt hu.size, fun j hj => ?_⟩
  rw [← hc j hj]
  simp only [World.cell?, hu.block b hlt (hag (by have := h.len; omega) b off ha)]
/-- A class's list lies in a block of intervals. -/
def Ty67 (w : World) (a : Option Addr) (n : Nat) : Prop := 0 < n → ∀ b off, a = some ⟨b, off, none⟩ → ∃ cs fz, w.heap[b]? = some (.cells cs 67 fz)
theorem Ty67.below {w w' : World} {a : Option Addr} {n : Nat} (h : Ty67 w a n) (hb : Below w.heap.size w w') : Ty67 w' a n := fun hn b off e => by
  obtain ⟨cs, fz, h1⟩ := h hn b off e
  exact ⟨cs, fz, by rw [hb.block b (Array.getElem?_eq_some_iff.1 h1).1]; exact h1⟩
theorem Ty67.ne {w : World} {a : Option Addr} {n g : Nat} {t : TypeId} {ds : List Value} (h : Ty67 w a n) (hb : Blk w g t ds) (ht : 67 ≠ t) : 0 < n → ∀ b off, a = some ⟨b, off, none⟩ → b ≠ g := fun hn b off e he => by
  obtain ⟨cs, fz, h1⟩ := h hn b off e
  subst he
  unfold Blk at hb
  rw [hb] at h1
  injection h1 with h1
  injection h1 with _ h2
  exact ht h2.symm
theorem Ty67.upd {w w' : World} {a : Option Addr} {n g : Nat} {t : TypeId} {ds : List Value} (h : Ty67 w a n) (hb : Blk w g t ds) (ht : 67 ≠ t) (hu : Upd g w w') : Ty67 w' a n := fun hn b off e => by
  have hne := h.ne hb ht hn b off e
  obtain ⟨cs, fz, h1⟩ := h hn b off e
  exact ⟨cs, fz, by rw [hu.block b (Array.getElem?_eq_some_iff.1 h1).1 hne]; exact h1⟩
theorem Ty67.blk {w : World} {g n : Nat} {cs : List Value} (hb : Blk w g 67 cs) : Ty67 w (some ⟨g, 0, none⟩) n := fun _ b off e => by cases e; exact ⟨_, _, hb⟩
theorem Ty67.nil (w : World) (a : Option Addr) : Ty67 w a 0 := fun h => by omega
/-- A register: the class, the table. -/
structure Rg (w0 : World) (r g : Nat) (a : Option Addr) (n c : Nat) (f : Nat → Bool) (w : World) : Prop where
  upd : Upd r w0 w
  tb : Blk w g 4 (tabL f)
  rg : Blk w r 40 [.slice a n c, .slice (some ⟨g, 0, none⟩) 196608 196608]
theorem Rg.below {w0 w w' : World} {r g : Nat} {a : Option Addr} {n c : Nat} {f : Nat → Bool} (h : Rg w0 r g a n c f w) (hb : Below w.heap.size w w') : Rg w0 r g a n c f w' := ⟨h.upd.ofBelow hb, h.tb.below hb, h.rg.below hb⟩
theorem Upd.other {g q : Nat} {a w w' : World} (h : Upd g a w) (hu : Upd q w w') (hq : a.heap.size ≤ q) : Upd g a w' :=
  ⟨hu.os.trans h.os, hu.tape.trans h.tape, hu.output.trans h.output, Nat.le_trans h.size hu.size, fun k hk hg => (hu.block k (Nat.lt_of_lt_of_le hk h.size) (by omega)).trans (h.block k hk hg)⟩
theorem Rg.set {w0 w : World} {r g : Nat} {a : Option Addr} {n c : Nat} {f : Nat → Bool} (h : Rg w0 r g a n c f w) (hg : w0.heap.size ≤ g) (hr : r ≠ g) {k : Nat} (hk : k < 196608) (b : Bool) : Rg w0 r g a n c (fun i => if i = k then b else f i) (w.setCell ⟨g, k, none⟩ (.bool b)) :=
  ⟨h.upd.other ((Upd.refl g w).setCell rfl _) hg, by rw [← tabL_set f hk]; exact h.tb.set k _, h.rg.setOther (fun e => hr e.symm) _⟩
theorem Rg.ext {w0 w : World} {r g : Nat} {a : Option Addr} {n c : Nat} {f f' : Nat → Bool} (h : Rg w0 r g a n c f w) (he : ∀ i, i < 196608 → f i = f' i) : Rg w0 r g a n c f' w := ⟨h.upd, by rw [← tabL_ext he]; exact h.tb, h.rg⟩
theorem nil_eq (w : World) : (binOp .eql 34 (.slice none 0 0) (.slice none 0 0)).run Try.prog w = .ok (.bool true) w := by kernel_rfl
theorem info_reg : (Try.prog.info? 30).map (·.size) = some 1 := by kernel_rfl
set_option maxRecDepth 100000 in
set_option maxHeartbeats 2000000 in
theorem members_walk (r : Nat) (a : Option Addr) (n c : Nat) (l : List (Int × Int)) (w : World) (hb : Blk w r 40 [.slice a n c, .slice none 0 0]) (hr : IvRow w a n c l) (hN : Nrm l) (hag : 0 < n → ∀ b off, a = some ⟨b, off, none⟩ → b ≠ r) :
    Calls Try.prog 17 #[.pointer (some ⟨r, 0, none⟩)] w fun e w' => ∃ g, e = .returned (.slice (some ⟨g, 0, none⟩) 196608 196608) ∧ w.heap.size ≤ g ∧ Blk w' g 4 (tabL (fun i => memB l (i : Int))) ∧ Upd r w w' := by
  have hn := hr.1.2.2.1.1
  have hl := hr.len
  have c0 : w.cell? ⟨r, 0, none⟩ = some (.slice a n c) := hb.cell 0
  have c1 : w.cell? ⟨r, 1, none⟩ = some (.slice none 0 0) := hb.cell 1
  have f1 := hb.frozen 1
  have hm := make_tab
  obtain ⟨g, hg⟩ : ∃ g, w.heap.size = g := ⟨_, rfl⟩
  have hrg : r < g := by have := hb.lt; omega
  have hnil := nil_eq
  have HR := hid hr
  have Hag := hid hag
  have hrg' : r ≠ g := by omega
  have HR1 : Hid (Rg w r g a n c (fun _ => false) ((w.setCell ⟨r, 1, none⟩ (.slice (some ⟨g, 0, none⟩) 196608 196608)).alloc (.cells (tabL fun _ => false).toArray 4))) := hid (by
    have h1 : Upd r w (w.setCell ⟨r, 1, none⟩ (.slice (some ⟨g, 0, none⟩) 196608 196608)) := (Upd.refl r w).setCell rfl _
    have h2 := Blk.new (w.setCell ⟨r, 1, none⟩ (.slice (some ⟨g, 0, none⟩) 196608 196608)) (tabL fun _ => false) 4
    rw [show (w.setCell ⟨r, 1, none⟩ (.slice (some ⟨g, 0, none⟩) 196608 196608)).heap.size = g by rw [← hg]; simp [World.setCell]] at h2
    exact ⟨h1.alloc _, h2, (hb.set 1 (.slice (some ⟨g, 0, none⟩) 196608 196608)).alloc _⟩)
  clear hr hag hb
  go_enter Try.func17, Try.ntmps17
  go_upto_region 3 with fail
  generalize (w.setCell ⟨r, 1, none⟩ (.slice (some ⟨g, 0, none⟩) 196608 196608)).alloc (.cells (tabL fun _ => false).toArray 4) = w1 at HR1 ⊢
  have d1 : w1.cell? ⟨r, 1, none⟩ = some (.slice (some ⟨g, 0, none⟩) 196608 196608) := HR1.out.rg.cell 1
  clear c0 c1 f1 hm hnil
  go_wp2_with fail
  go_loopw [18] (fun i wr => ∃ k : Nat, k ≤ 196608 ∧ i = .int .i64 k ∧ Hid (Rg w r g a n c (fun i => decide (i < k) && memB l (i : Int)) wr)) (fun i _ => 196608 - (intOf i).toNat)
  case atStart => exact ⟨0, by omega, rfl, hid (HR1.out.ext (fun i _ => by simp))⟩
  case round =>
    clear d1 HR1
    obtain ⟨k, hk, rfl, HG⟩ := hrel
    by_cases hlt : k < 196608
    rotate_left
    · have dk : decide ((k : Int) < 196608) = false := decide_eq_false (by omega)
      have HTe := hid (HG.out.ext (f' := fun i => memB l (i : Int)) (fun i hi => by rw [decide_eq_true (show i < k by omega), Bool.true_and]))
      have d1 : wr.cell? ⟨r, 1, none⟩ = some (.slice (some ⟨g, 0, none⟩) 196608 196608) := HG.out.rg.cell 1
      go_wp2
      go_ret
      exact ⟨g, rfl, by omega, HTe.out.tb, HTe.out.upd⟩
    have dk : decide ((k : Int) < 196608) = true := decide_eq_true (by omega)
    have i2 : (k : Int) < 196608 := by omega
    obtain ⟨X, W, hT, hI⟩ := class_mk (Rg w r g a n c (fun i => decide (i < k) && memB l (i : Int)))
    have HCl : Hid (∀ x w', Below (W x).heap.size (W x) w' → ∃ y, w' = W y) := hid (fun x w' hb => hI _ ((hT x).below hb))
    have H0 : Hid (∃ x, wr.drew = W x) := hid (hI _ (HG.out.below (Drew.below ⟨1, rfl⟩ _)))
    have hne : Nonempty X := ⟨H0.out.choose⟩
    have d0 : ∀ x, (W x).cell? ⟨r, 0, none⟩ = some (.slice a n c) := fun x => (hT x).rg.cell 0
    have d1 : ∀ x, (W x).cell? ⟨r, 1, none⟩ = some (.slice (some ⟨g, 0, none⟩) 196608 196608) := fun x => (hT x).rg.cell 1
    obtain ⟨B, hB⟩ : ∃ B, memB l (k : Int) = B := ⟨_, rfl⟩
    have HCo : Hid (∀ x, Calls Try.prog 18 #[.agg #[.slice a n c], .int .i64 (k : Int)] (W x) fun e w' => e = .returned (.bool B) ∧ Below (W x).heap.size (W x) w') := hid (fun x => by rw [← hB]; exact contains_walk a n c l (k : Int) (W x) (HR.out.upd (hT x).upd Hag.out) hN)
    have HTT := hid hT
    have HBv := hid hB
    clear hT hI hB
    go_upto_region 6 with fail
    refine wp_region_class_lastT W rfl (by kernel_rfl) (by kernel_rfl) (by kernel_rfl) H0.out ?_
    dsimp only [List.dropLast, List.getLast]
    repeat (go_big_quiet_step ((go_at_call 18; exact Calls.class_of HCl.out (HCo.out _))))
    refine wpQuiet_nil ?_
    intro z
    have HZ := hid (HTT.out z)
    generalize W z = wz at HZ ⊢
    clear d0 d1 HCl H0 HTT HCo
    have cg : wz.cell? ⟨g, k, none⟩ = some (.bool (decide (k < k) && memB l (k : Int))) := by rw [HZ.out.tb.cell]; exact tabL_get _ hlt
    have fg := HZ.out.tb.frozen k
    have HZ2 : Hid (Rg w r g a n c (fun i => decide (i < k + 1) && memB l (i : Int)) (wz.setCell ⟨g, k, none⟩ (.bool B))) := hid ((HZ.out.set (by omega) hrg' hlt B).ext (fun i hi => by
      by_cases h : i = k
      · subst h
        rw [if_pos rfl, decide_eq_true (by omega), Bool.true_and, HBv.out]
      · rw [if_neg h]
        have : decide (i < k) = decide (i < k + 1) := by rw [decide_eq_decide]; omega
        rw [this]))
    go_wp2
    exact ⟨⟨k + 1, by omega, by go_num, HZ2⟩, by simp [intOf]; omega⟩
theorem info_ivz : ∃ i, Try.prog.info? 67 = some i ∧ i.zero = some (.agg #[.int .i64 0, .int .i64 0]) ∧ i.size = 2 ∧ i.bytes = 16 := by
  have h : (Try.prog.info? 67).map (fun i => (i.zero, i.size, i.bytes)) = some (some (.agg #[.int .i64 0, .int .i64 0]), 2, 16) := by kernel_rfl
  obtain ⟨i, hi, he⟩ := Option.map_eq_some_iff.1 h
  simp only [Prod.mk.injEq] at he
  exact ⟨i, hi, he.1, he.2.1, he.2.2⟩
theorem iv_one (l : List (Int × Int)) : ∀ u ∈ l.flatMap ivC, u.oneCell' = true := by
  intro u hu
  obtain ⟨p, _, hp⟩ := List.mem_flatMap.1 hu
  simp [ivC] at hp
  rcases hp with rfl | rfl <;> rfl
/-- The copy of a class's list. -/
theorem intervals_walk (a : Option Addr) (n c : Nat) (l : List (Int × Int)) (w : World) (hr : IvRow w a n c l) (hn : n ≤ 1000000) :
    Calls Try.prog 14 #[.agg #[.slice a n c]] w fun e w' => ∃ a' n' c', e = .returned (.slice a' n' c') ∧ Below w.heap.size w w' ∧ IvRow w' a' n' c' l := by
  obtain ⟨i0, hi, hz0, hz1, hz2⟩ := info_ivz
  have HI := hid (And.intro hi (And.intro hz0 (And.intro hz1 hz2)))
  have hl := hr.len
  have HR := hid hr
  obtain ⟨q, hq⟩ : ∃ q, w.heap.size = q := ⟨_, rfl⟩
  have hb1 := Blk.new w [.slice a n c] 30
  rw [hq] at hb1
  obtain ⟨w1, hw1⟩ : ∃ w1, w.alloc (.cells #[.slice a n c] 30) = w1 := ⟨_, rfl⟩
  have HB1 : Hid (Below w.heap.size w w1) := hid (by rw [← hw1]; exact nbel w _)
  have hw1' : w.alloc (.cells [Value.slice a n c].toArray 30) = w1 := hw1
  rw [hw1'] at hb1
  have HR1 : Hid (IvRow w1 a n c l) := hid (hr.below HB1.out)
  have c0 : w1.cell? ⟨q, 0, none⟩ = some (.slice a n c) := hb1.cell 0
  have HO : Hid (w1.ownsRow w.heap.size 67 2 (.slice none 0 0) 0 []) := hid (World.ownsRow_nil _ _ _ _)
  have hlen : (l.flatMap ivC).length = n * 2 := by rw [length_flatMap_const (f := ivC) (sz := 2) l (fun x _ => rfl), hl]
  have hb : (0 + n) * 16 ≤ 140737488355328 := by omega
  have hsz : w.heap.size ≤ w1.heap.size := HB1.out.size
  have HCe := hid (HR1.out.1.cells (by omega) (fun _ => rfl))
  have HNil := hid (fun (h : a = none) => HR1.out.1.nil h)
  clear hr hi hz0 hz1 hz2 hb1 hw1'
  go_enter Try.func14, Try.ntmps14
  go_upto_region 1 with fail
  try simp only [hw1]
  clear hw1
  go_wp2_with (at_builtin; refine wpList_append_row _ rfl (.const (.slice none 0 0)) (.tmp 4) 25 rfl w.heap.size 67 i0 (.agg #[.int .i64 0, .int .i64 0]) 2 16 Try.underlying25 HI.out.1 HI.out.2.1 HI.out.2.2.1 HI.out.2.2.2 rfl (by decide) _ _ _ rfl HO.out a n c (l.flatMap ivC) rfl hlen HNil.out HCe.out (iv_one l) hb (by decide) hsz ?_; intro v8 w8 hown8 hb8 hk8 hg8; have HOw8 := hid hown8; have HB8 := hid hb8; clear hown8 hb8 hk8 hg8)
  go_ret
  have ho := HOw8.out
  rw [Nat.zero_add, List.nil_append, ← hl] at ho
  obtain ⟨a', n', c', hv, hrow⟩ := ownsRow_row (f := ivC) (l := l) (sz := 2) (by decide) (fun _ => rfl) (by omega) ho
  exact ⟨a', n', c', by rw [← hv]; rfl, HB1.out.trans HB8.out, hrow, HR.out.2⟩
end Go.Proofs.Qxb6500884a
