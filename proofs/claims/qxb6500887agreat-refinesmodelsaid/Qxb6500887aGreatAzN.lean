/- packed.New, mustTable, arena.New: the whole arena of zeros. -/
import Derived.Test.Qxb6500887aGreatAz9
import Derived.Test.Qxb6500887aGreatArNew
namespace Go.Proofs.Qxb6500887aGreat
open Go.RowKit
set_option linter.unusedSimpArgs false
set_option linter.unusedVariables false

def ojW (wd j : Nat) : Nat := (2 ^ (wd * j) - 1) / (2 ^ wd - 1)
theorem ojW_tab1 : ((List.range 64).all fun j => bits .or .u64 ((ojW 1 j : Nat) : Int) (IntKind.u64.wrap (1 * 2 ^ (1 * j))) == ((ojW 1 (j + 1) : Nat) : Int)) = true := by kernel_rfl
theorem ojW_tab2 : ((List.range 32).all fun j => bits .or .u64 ((ojW 2 j : Nat) : Int) (IntKind.u64.wrap (1 * 2 ^ (2 * j))) == ((ojW 2 (j + 1) : Nat) : Int)) = true := by kernel_rfl
theorem ojW_tab4 : ((List.range 16).all fun j => bits .or .u64 ((ojW 4 j : Nat) : Int) (IntKind.u64.wrap (1 * 2 ^ (4 * j))) == ((ojW 4 (j + 1) : Nat) : Int)) = true := by kernel_rfl
theorem ojW_step {wd per j : Nat} (hw : Wd wd per) (hj : j < per) : bits .or .u64 ((ojW wd j : Nat) : Int) (IntKind.u64.wrap (1 * 2 ^ (wd * j))) = ((ojW wd (j + 1) : Nat) : Int) := by
  rcases hw with ⟨rfl, rfl⟩ | ⟨rfl, rfl⟩ | ⟨rfl, rfl⟩
  · exact eq_of_beq (List.all_eq_true.1 ojW_tab1 j (List.mem_range.2 hj))
  · exact eq_of_beq (List.all_eq_true.1 ojW_tab2 j (List.mem_range.2 hj))
  · exact eq_of_beq (List.all_eq_true.1 ojW_tab4 j (List.mem_range.2 hj))
theorem ojW_end {wd per : Nat} (hw : Wd wd per) : ojW wd per = onW wd := by
  rcases hw with ⟨rfl, rfl⟩ | ⟨rfl, rfl⟩ | ⟨rfl, rfl⟩ <;> kernel_rfl
set_option maxRecDepth 100000 in
set_option maxHeartbeats 1000000 in
theorem tabNewZ_walk (n wd per len : Nat) (hW : Wd wd per) (h : wd = 1 ∨ wd = 2 ∨ wd = 4) (hpd : 64 / wd = per) (hn : n ≤ 32768) (hlen : (n + per - 1) / per = len) (w : World) :
    Calls Tryz.prog 166 #[.int .i64 n, .int .u64 wd] w fun e w' => ∃ t b, e = .returned (.tuple #[.pointer (some ⟨t, 0, none⟩), .bool true]) ∧ Below w.heap.size w w' ∧ w.heap.size ≤ t ∧ w.heap.size ≤ b ∧ t ≠ b ∧ Tab w' t b n wd per (2 ^ wd - 1) ((ojW wd per : Nat) : Int) (List.replicate len 0) := by
  have HOj : Hid (∀ j, j < per → bits .or .u64 ((ojW wd j : Nat) : Int) (IntKind.u64.wrap (1 * 2 ^ (wd * j))) = ((ojW wd (j + 1) : Nat) : Int)) := hid (fun j hj => by
    exact ojW_step hW hj)
  have HO0 : Hid (ojW wd 0 = 0) := hid (by unfold ojW; simp)
  clear hW
  have HV := hid (fun w => validWidth_walk wd h w)
  have HL := hid (fun w => lowBits_walk wd h w)
  have hw1 : 1 ≤ wd := by omega
  have hw4 : wd ≤ 4 := by omega
  have hp : wd * per = 64 := by rcases h with rfl | rfl | rfl <;> omega
  have hp1 : 1 ≤ per := by rcases h with rfl | rfl | rfl <;> omega
  have hp2 : per ≤ 64 := by rcases h with rfl | rfl | rfl <;> omega
  have hq : 64 / (wd : Int) = (per : Int) := by
    rcases h with rfl | rfl | rfl <;> (subst hpd; omega)
  have hl2 : ((n : Int) + per - 1) / per = (len : Int) := by
    rw [← hlen]
    have : ((n : Int) + per - 1) = ((n + per - 1 : Nat) : Int) := by omega
    rw [this]
    simp
  have hll : len ≤ 32768 := by
    rw [← hlen]
    refine Nat.div_le_of_le_mul ?_
    rcases Nat.lt_or_ge per 2 with e | e
    · have : per = 1 := by omega
      rw [this]; omega
    · have := Nat.mul_le_mul_right 32768 e
      omega
  have hmk := run_make_row' (P := Tryz.prog) 53 29 (.int .u64 0) 8 (by kernel_rfl) info_u64 rfl .i64 .i64 len (by omega) (by omega)
  have hz : (wd == 0) = false := by simp; omega
  have Hh := hid h
  have Hlen := hid hlen
  generalize hM : 2 ^ wd - 1 = mask at *
  clear h hpd hlen
  go_enter Tryz.func166, Tryz.ntmps166
  go_wp2_with (go_at_call 218; refine (HV.out _).mono ?_; rintro e w1 ⟨rfl, rfl⟩)
  go_loopw [7, 8] (fun v u wr => wr = w1 ∧ ∃ j : Nat, j ≤ per ∧ v = .int .u64 ((ojW wd j : Nat) : Int) ∧ u = .int .u64 ((wd * j : Nat) : Int)) (fun _ u _ => 64 - (intOf u).toNat)
  case atStart => exact ⟨rfl, 0, by omega, by rw [HO0.out]; rfl, rfl⟩
  case round =>
    obtain ⟨rfl, j, hj, rfl, rfl⟩ := hrel
    have hjj : wd * j ≤ 64 := by rw [← hp]; exact Nat.mul_le_mul_left _ hj
    by_cases hlt : j < per
    · have h1 : wd * j + wd ≤ 64 := by
        have := Nat.mul_le_mul_left wd hlt
        rw [Nat.succ_eq_add_one, Nat.mul_add] at this
        omega
      have e : wd * (j + 1) = wd * j + wd := by rw [Nat.mul_add]; omega
      have dj : decide (((wd * j : Nat) : Int) < 64) = true := decide_eq_true (by omega)
      have Hn : Hid (wd * (j + 1) = wd * j + wd) := hid e
      have HO := hid (HOj.out j hlt)
      clear HOj
      generalize wd * j = sj at *
      generalize ojW wd j = o at *
      clear e
      go_wp2
      refine ⟨⟨trivial, j + 1, by omega, ?_, by rw [Hn.out]; simp⟩, by simp [intOf]; omega⟩
      rw [← HO.out]
      first | rfl | simp
    · have hje : j = per := by omega
      subst hje
      have dj : decide (((wd * j : Nat) : Int) < 64) = false := decide_eq_false (by omega)
      have dp : (j == 0) = false := by simp; omega
      have dp' : ((j : Int) == 0) = false := by simp; omega
      clear HOj
      go_wp2_with fail
      go_region_with (go_at_call 219; refine (HL.out _).mono ?_; rintro e wq ⟨rfl, rfl⟩)
      all_goals go_wp2
      all_goals
        refine bodyPost_ret (v := .tuple #[.pointer (some ⟨wr.heap.size + 1, 0, none⟩), .bool true]) (by simp [results, Tryz.results166, go_sem]) rfl ⟨wr.heap.size + 1, wr.heap.size, rfl, ?_⟩
        exact tab_new wr n wd j mask len ((ojW wd j : Nat) : Int)

def z0 : Nat → Nat := fun _ => 0
theorem repl_wdC (len : Nat) : (List.replicate len 0).map (fun (x : Nat) => Value.int .u64 (x : Int)) = wdC len z0 := by
  unfold wdC fnC z0
  apply List.ext_getElem?
  intro i
  by_cases h : i < len
  · simp [h]
  · rw [List.getElem?_eq_none (by simp; omega), List.getElem?_eq_none (by simp; omega)]
set_option maxRecDepth 100000 in
theorem mustTableZ (n wd per len : Nat) (hK : TK n wd per len) (w : World) :
    Calls Tryz.prog 55 #[.int .i64 (n : Int), .int .u64 (wd : Int)] w fun e w' => ∃ t b, e = .returned (.pointer (some ⟨t, 0, none⟩)) ∧ Below w.heap.size w w' ∧ w.heap.size ≤ t ∧ w.heap.size ≤ b ∧ TB t b n wd per len z0 w' := by
  have hp := hK.wd.mul
  have HN := hid (fun w => tabNewZ_walk n wd per len hK.wd hK.wd.three (by rcases hK.wd with ⟨rfl, rfl⟩ | ⟨rfl, rfl⟩ | ⟨rfl, rfl⟩ <;> rfl) hK.n (by
    have := hK.len
    rcases hK.wd with ⟨rfl, rfl⟩ | ⟨rfl, rfl⟩ | ⟨rfl, rfl⟩ <;> omega) w)
  rw [ojW_end hK.wd] at HN
  have HK := hid hK
  clear hK hp
  go_enter Tryz.func55, Tryz.ntmps55
  go_wp2_with fail
  refine (HN.out _).mono ?_
  rintro e w1 ⟨t, b, rfl, hb, ht, hbb, hne, htab⟩
  have HZ : Hid (TB t b n wd per len z0 w1) := hid (by
    refine ⟨?_, ?_, fun q => by unfold z0; decide, hne, HK.out⟩
    · have := htab.tb
      unfold tbC
      simpa using this
    · have := htab.wb
      rw [repl_wdC] at this
      exact this)
  have HB := hid (And.intro hb (And.intro ht hbb))
  clear htab HN hb ht hbb hne
  go_wp2
  go_ret
  exact ⟨t, b, rfl, HB.out.1, HB.out.2.1, HB.out.2.2, HZ.out⟩
/-- What an arena holds: the heap's words and the words of the four tables; the version. -/
structure AS where
  W : Nat → Nat
  C : Nat → Nat
  M : Nat → Nat
  L : Nat → Nat
  T : Nat → Nat
  v : Nat
/-- Where an arena lies. -/
structure AL where
  a : Nat
  w : Nat
  tc : Nat
  bc : Nat
  tm : Nat
  bm : Nat
  tl : Nat
  bl : Nat
  tt : Nat
  bt : Nat
def AL.ds (l : AL) : List Nat := [l.w, l.bc, l.bm, l.bl, l.bt]
def arC (l : AL) (v : Nat) : List Value := [.slice (some ⟨l.w, 0, none⟩) 32768 32768, .pointer (some ⟨l.tc, 0, none⟩), .pointer (some ⟨l.tm, 0, none⟩), .pointer (some ⟨l.tl, 0, none⟩), .pointer (some ⟨l.tt, 0, none⟩), .int .u64 (v : Int)]
/-- An arena in memory. -/
structure AM (l : AL) (S : AS) (w : World) : Prop where
  a : Blk w l.a 105 (arC l S.v)
  ws : Blk w l.w 29 (wdC 32768 S.W)
  wl : ∀ i, S.W i < 18446744073709551616
  tc : TB l.tc l.bc 16384 2 32 512 S.C w
  tm : TB l.tm l.bm 16384 1 64 256 S.M w
  tl : TB l.tl l.bl 32768 1 64 512 S.L w
  tt : TB l.tt l.bt 2048 4 16 128 S.T w
  nd : l.ds.Nodup
  vl : S.v < 18446744073709551616
/-- What has been made so far. -/
structure NZ (w : World) (g : Option Nat) (cs ms ls ts : Option (Nat × Nat)) (x : World) : Prop where
  bel : Below w.heap.size w x
  ws : ∀ q, g = some q → Blk x q 29 (wdC 32768 z0)
  c : ∀ p, cs = some p → TB p.1 p.2 16384 2 32 512 z0 x ∧ w.heap.size ≤ p.1
  m : ∀ p, ms = some p → TB p.1 p.2 16384 1 64 256 z0 x ∧ w.heap.size ≤ p.1
  l : ∀ p, ls = some p → TB p.1 p.2 32768 1 64 512 z0 x ∧ w.heap.size ≤ p.1
  t : ∀ p, ts = some p → TB p.1 p.2 2048 4 16 128 z0 x ∧ w.heap.size ≤ p.1
  nd : (g.toList ++ (cs.toList ++ ms.toList ++ ls.toList ++ ts.toList).map (·.2)).Nodup
  rg : ∀ d ∈ (g.toList ++ (cs.toList ++ ms.toList ++ ls.toList ++ ts.toList).map (·.2)), w.heap.size ≤ d ∧ d < x.heap.size
section
variable {w x y : World} {g : Option Nat} {cs ms ls ts : Option (Nat × Nat)} {t b : Nat}
theorem NZ.below (h : NZ w g cs ms ls ts x) (hb : Below x.heap.size x y) : NZ w g cs ms ls ts y :=
  ⟨h.bel.trans (hb.mono h.bel.size), fun q e => (h.ws q e).below hb, fun p e => ⟨(h.c p e).1.below hb, (h.c p e).2⟩, fun p e => ⟨(h.m p e).1.below hb, (h.m p e).2⟩, fun p e => ⟨(h.l p e).1.below hb, (h.l p e).2⟩, fun p e => ⟨(h.t p e).1.below hb, (h.t p e).2⟩, h.nd, fun d hd => ⟨(h.rg d hd).1, Nat.lt_of_lt_of_le (h.rg d hd).2 hb.size⟩⟩
theorem NZ.start (w : World) : NZ w none none none none none w := ⟨Below.refl _ _, fun _ e => (by cases e), fun _ e => (by cases e), fun _ e => (by cases e), fun _ e => (by cases e), fun _ e => (by cases e), by simp, by simp⟩
theorem nodup_snoc {l : List Nat} {b : Nat} (h : l.Nodup) (hb : b ∉ l) : (l ++ b :: []).Nodup := List.nodup_append.2 ⟨h, by simp, fun a ha c hc e => hb (by simp at hc; rw [← hc, ← e]; exact ha)⟩
theorem mem_ins {α : Type} {l1 l2 : List α} {d e : α} (h : e ∈ l1 ++ d :: l2) : e = d ∨ e ∈ l1 ++ l2 := by
  rcases List.mem_append.1 h with h | h
  · exact .inr (List.mem_append.2 (.inl h))
  · rcases List.mem_cons.1 h with h | h
    · exact .inl h
    · exact .inr (List.mem_append.2 (.inr h))
theorem NZ.words (h : NZ w none cs ms ls ts x) : NZ w (some x.heap.size) cs ms ls ts (x.alloc (.cells (madeCells #[.int .u64 0] 32768) 29)) := by
  have hb := bel_alloc x (.cells (madeCells #[.int .u64 0] 32768) 29)
  have k := h.below hb
  refine ⟨k.bel, fun q e => ?_, k.c, k.m, k.l, k.t, ?_, ?_⟩
  · cases e
    rw [made_u64, ← repl_wdC]
    exact Blk.new x _ _
  · have := h.nd
    refine List.nodup_cons.2 ⟨fun hm => ?_, this⟩
    have := (h.rg _ hm).2
    omega
  · intro d hd
    rcases List.mem_cons.1 hd with e | e
    · have := h.bel.size
      rw [e]
      simp
      exact h.bel.size
    · exact k.rg d e
theorem NZ.addC (h : NZ w g none none none none x) (hb : Below x.heap.size x y) (ht : x.heap.size ≤ t) (hbb : x.heap.size ≤ b) (hT : TB t b 16384 2 32 512 z0 y) : NZ w g (some (t, b)) none none none y := by
  have k := h.below hb
  have hs := h.bel.size
  refine ⟨k.bel, k.ws, fun p e => ?_, k.m, k.l, k.t, ?_, ?_⟩
  · cases e; exact ⟨hT, by omega⟩
  · have e : (g.toList ++ ((some (t, b)).toList ++ (none : Option (Nat × Nat)).toList ++ (none : Option (Nat × Nat)).toList ++ (none : Option (Nat × Nat)).toList).map (·.2)) = g.toList ++ b :: [] := by simp
    rw [e]
    refine nodup_snoc (by have := h.nd; simpa using this) (fun hm => ?_)
    have := (h.rg b (by simpa using hm)).2
    omega
  · intro d hd
    have e : d = b ∨ d ∈ g.toList := by
      have := mem_ins (l1 := g.toList) (l2 := []) (d := b) (e := d) (by simpa using hd)
      simpa using this
    rcases e with rfl | e
    · exact ⟨by omega, hT.dom.2⟩
    · exact k.rg d (by simpa using e)
theorem NZ.addM {c1 c2 : Nat} (h : NZ w g (some (c1, c2)) none none none x) (hb : Below x.heap.size x y) (ht : x.heap.size ≤ t) (hbb : x.heap.size ≤ b) (hT : TB t b 16384 1 64 256 z0 y) : NZ w g (some (c1, c2)) (some (t, b)) none none y := by
  have k := h.below hb
  have hs := h.bel.size
  refine ⟨k.bel, k.ws, k.c, fun p e => ?_, k.l, k.t, ?_, ?_⟩
  · cases e; exact ⟨hT, by omega⟩
  · have e : (g.toList ++ ((some (c1, c2)).toList ++ (some (t, b)).toList ++ (none : Option (Nat × Nat)).toList ++ (none : Option (Nat × Nat)).toList).map (·.2)) = (g.toList ++ [c2]) ++ b :: [] := by simp
    rw [e]
    refine nodup_snoc (by have := h.nd; simpa using this) (fun hm => ?_)
    have := (h.rg b (by simpa using hm)).2
    omega
  · intro d hd
    have e : d = b ∨ d ∈ g.toList ++ [c2] := by
      have := mem_ins (l1 := g.toList ++ [c2]) (l2 := []) (d := b) (e := d) (by simpa using hd)
      simpa using this
    rcases e with rfl | e
    · exact ⟨by omega, hT.dom.2⟩
    · exact k.rg d (by simpa using e)
theorem NZ.addL {c1 c2 m1 m2 : Nat} (h : NZ w g (some (c1, c2)) (some (m1, m2)) none none x) (hb : Below x.heap.size x y) (ht : x.heap.size ≤ t) (hbb : x.heap.size ≤ b) (hT : TB t b 32768 1 64 512 z0 y) : NZ w g (some (c1, c2)) (some (m1, m2)) (some (t, b)) none y := by
  have k := h.below hb
  have hs := h.bel.size
  refine ⟨k.bel, k.ws, k.c, k.m, fun p e => ?_, k.t, ?_, ?_⟩
  · cases e; exact ⟨hT, by omega⟩
  · have e : (g.toList ++ ((some (c1, c2)).toList ++ (some (m1, m2)).toList ++ (some (t, b)).toList ++ (none : Option (Nat × Nat)).toList).map (·.2)) = (g.toList ++ [c2, m2]) ++ b :: [] := by simp
    rw [e]
    refine nodup_snoc (by have := h.nd; simpa using this) (fun hm => ?_)
    have := (h.rg b (by simpa using hm)).2
    omega
  · intro d hd
    have e : d = b ∨ d ∈ g.toList ++ [c2, m2] := by
      have := mem_ins (l1 := g.toList ++ [c2, m2]) (l2 := []) (d := b) (e := d) (by simpa using hd)
      simpa using this
    rcases e with rfl | e
    · exact ⟨by omega, hT.dom.2⟩
    · exact k.rg d (by simpa using e)
theorem NZ.addT {c1 c2 m1 m2 l1 l2 : Nat} (h : NZ w g (some (c1, c2)) (some (m1, m2)) (some (l1, l2)) none x) (hb : Below x.heap.size x y) (ht : x.heap.size ≤ t) (hbb : x.heap.size ≤ b) (hT : TB t b 2048 4 16 128 z0 y) : NZ w g (some (c1, c2)) (some (m1, m2)) (some (l1, l2)) (some (t, b)) y := by
  have k := h.below hb
  have hs := h.bel.size
  refine ⟨k.bel, k.ws, k.c, k.m, k.l, fun p e => ?_, ?_, ?_⟩
  · cases e; exact ⟨hT, by omega⟩
  · have e : (g.toList ++ ((some (c1, c2)).toList ++ (some (m1, m2)).toList ++ (some (l1, l2)).toList ++ (some (t, b)).toList).map (·.2)) = (g.toList ++ [c2, m2, l2]) ++ b :: [] := by simp
    rw [e]
    refine nodup_snoc (by have := h.nd; simpa using this) (fun hm => ?_)
    have := (h.rg b (by simpa using hm)).2
    omega
  · intro d hd
    have e : d = b ∨ d ∈ g.toList ++ [c2, m2, l2] := by
      have := mem_ins (l1 := g.toList ++ [c2, m2, l2]) (l2 := []) (d := b) (e := d) (by simpa using hd)
      simpa using this
    rcases e with rfl | e
    · exact ⟨by omega, hT.dom.2⟩
    · exact k.rg d (by simpa using e)
end
/-- The new arena. -/
def S0 : AS := ⟨z0, z0, z0, z0, z0, 0⟩
/-- All of an arena's blocks lie above. -/
def AL.above (l : AL) (n : Nat) : Prop := n ≤ l.a ∧ n ≤ l.w ∧ n ≤ l.tc ∧ n ≤ l.bc ∧ n ≤ l.tm ∧ n ≤ l.bm ∧ n ≤ l.tl ∧ n ≤ l.bl ∧ n ≤ l.tt ∧ n ≤ l.bt
theorem NZ.arena {w x : World} {q c1 c2 m1 m2 l1 l2 t1 t2 : Nat} (h : NZ w (some q) (some (c1, c2)) (some (m1, m2)) (some (l1, l2)) (some (t1, t2)) x) :
    ∃ l : AL, l.a = x.heap.size ∧ Hid (AM l S0 (x.alloc (.cells #[.slice (some ⟨q, 0, none⟩) 32768 32768, .pointer (some ⟨c1, 0, none⟩), .pointer (some ⟨m1, 0, none⟩), .pointer (some ⟨l1, 0, none⟩), .pointer (some ⟨t1, 0, none⟩), .int .u64 0] 105)) ∧ Below w.heap.size w (x.alloc (.cells #[.slice (some ⟨q, 0, none⟩) 32768 32768, .pointer (some ⟨c1, 0, none⟩), .pointer (some ⟨m1, 0, none⟩), .pointer (some ⟨l1, 0, none⟩), .pointer (some ⟨t1, 0, none⟩), .int .u64 0] 105)) ∧ l.above w.heap.size) := by
  have k := h.below (bel_alloc x (.cells #[.slice (some ⟨q, 0, none⟩) 32768 32768, .pointer (some ⟨c1, 0, none⟩), .pointer (some ⟨m1, 0, none⟩), .pointer (some ⟨l1, 0, none⟩), .pointer (some ⟨t1, 0, none⟩), .int .u64 0] 105))
  refine ⟨⟨x.heap.size, q, c1, c2, m1, m2, l1, l2, t1, t2⟩, rfl, hid ⟨⟨Blk.new x _ _, k.ws q rfl, fun i => (by decide : (0 : Nat) < 18446744073709551616), (k.c _ rfl).1, (k.m _ rfl).1, (k.l _ rfl).1, (k.t _ rfl).1, ?_, by decide⟩, k.bel, h.bel.size, ?_, (h.c _ rfl).2, ?_, (h.m _ rfl).2, ?_, (h.l _ rfl).2, ?_, (h.t _ rfl).2, ?_⟩⟩
  · have := h.nd
    simpa [AL.ds] using this
  · exact (h.rg q (by simp)).1
  · exact (h.rg c2 (by simp)).1
  · exact (h.rg m2 (by simp)).1
  · exact (h.rg l2 (by simp)).1
  · exact (h.rg t2 (by simp)).1
attribute [local irreducible] madeCells in
set_option maxRecDepth 100000 in
set_option maxHeartbeats 4000000 in
theorem arenaNewZ (w : World) :
    Calls Tryz.prog 11 #[] w fun e w' => ∃ l : AL, e = .returned (.pointer (some ⟨l.a, 0, none⟩)) ∧ Hid (AM l S0 w' ∧ Below w.heap.size w w' ∧ l.above w.heap.size) := by
  have hmk : ∀ w : World, (Instr.makeSlice 53 (.int .i64 32768) (.int .i64 32768)).run Tryz.prog w = .ok (.slice (some ⟨w.heap.size, 0, none⟩) 32768 32768) (w.alloc (.cells (madeCells #[.int .u64 0] 32768) 29)) := run_make_row' (P := Tryz.prog) 53 29 (.int .u64 0) 8 (by kernel_rfl) info_u64 rfl .i64 .i64 32768 (by omega) (by omega)
  have H1 : Hid (∀ w, Calls Tryz.prog 55 #[.int .i64 16384, .int .u64 2] w fun e w' => ∃ t b, e = .returned (.pointer (some ⟨t, 0, none⟩)) ∧ Below w.heap.size w w' ∧ w.heap.size ≤ t ∧ w.heap.size ≤ b ∧ TB t b 16384 2 32 512 z0 w') := hid (fun w => mustTableZ 16384 2 32 512 ⟨.inr (.inl ⟨rfl, rfl⟩), rfl, by decide⟩ w)
  have H2 : Hid (∀ w, Calls Tryz.prog 55 #[.int .i64 16384, .int .u64 1] w fun e w' => ∃ t b, e = .returned (.pointer (some ⟨t, 0, none⟩)) ∧ Below w.heap.size w w' ∧ w.heap.size ≤ t ∧ w.heap.size ≤ b ∧ TB t b 16384 1 64 256 z0 w') := hid (fun w => mustTableZ 16384 1 64 256 ⟨.inl ⟨rfl, rfl⟩, rfl, by decide⟩ w)
  have H3 : Hid (∀ w, Calls Tryz.prog 55 #[.int .i64 32768, .int .u64 1] w fun e w' => ∃ t b, e = .returned (.pointer (some ⟨t, 0, none⟩)) ∧ Below w.heap.size w w' ∧ w.heap.size ≤ t ∧ w.heap.size ≤ b ∧ TB t b 32768 1 64 512 z0 w') := hid (fun w => mustTableZ 32768 1 64 512 ⟨.inl ⟨rfl, rfl⟩, rfl, by decide⟩ w)
  have H4 : Hid (∀ w, Calls Tryz.prog 55 #[.int .i64 2048, .int .u64 4] w fun e w' => ∃ t b, e = .returned (.pointer (some ⟨t, 0, none⟩)) ∧ Below w.heap.size w w' ∧ w.heap.size ≤ t ∧ w.heap.size ≤ b ∧ TB t b 2048 4 16 128 z0 w') := hid (fun w => mustTableZ 2048 4 16 128 ⟨.inr (.inr ⟨rfl, rfl⟩), rfl, by decide⟩ w)
  have P0 := hid (NZ.start w)
  go_enter Tryz.func11, Tryz.ntmps11
  go_upto_region 1 with fail
  go_region_with (go_at_call 55; first
    | (with_reducible refine (H1.out _).mono ?_; rintro e x1 ⟨t1, b1, rfl, hb1, ht1, hbb1, hr1⟩; have P1 := hid (NZ.addC (by first | exact P0.out | exact P0.out.below (bel_drew _) | exact P0.out.words | exact (P0.out.below (bel_drew _)).words | exact P0.out.words.below (bel_drew _)) hb1 ht1 hbb1 hr1); clear hb1 ht1 hbb1 hr1)
    | (with_reducible refine (H2.out _).mono ?_; rintro e x2 ⟨t2, b2, rfl, hb2, ht2, hbb2, hr2⟩; have P2 := hid (NZ.addM (by first | exact P1.out | exact P1.out.words) hb2 ht2 hbb2 hr2); clear hb2 ht2 hbb2 hr2)
    | (with_reducible refine (H3.out _).mono ?_; rintro e x3 ⟨t3, b3, rfl, hb3, ht3, hbb3, hr3⟩; have P3 := hid (NZ.addL (by first | exact P2.out | exact P2.out.words) hb3 ht3 hbb3 hr3); clear hb3 ht3 hbb3 hr3)
    | (with_reducible refine (H4.out _).mono ?_; rintro e x4 ⟨t4, b4, rfl, hb4, ht4, hbb4, hr4⟩; have P4 := hid (NZ.addT (by first | exact P3.out | exact P3.out.words) hb4 ht4 hbb4 hr4); clear hb4 ht4 hbb4 hr4))
  all_goals go_wp2
  all_goals first
    | (obtain ⟨l, hl, HL⟩ := P4.out.arena
       refine bodyPost_ret (v := .pointer (some ⟨x4.heap.size, 0, none⟩)) (by simp [results, Tryz.results11, go_sem]) rfl ⟨l, by rw [hl], HL⟩)
    | (obtain ⟨l, hl, HL⟩ := P4.out.words.arena
       rw [show (x4.alloc (.cells (madeCells #[.int .u64 0] 32768) 29)).heap.size = x4.heap.size + 1 by simp] at hl
       refine bodyPost_ret (v := .pointer (some ⟨x4.heap.size + 1, 0, none⟩)) (by simp [results, Tryz.results11, go_sem]) rfl ⟨l, by rw [hl], HL⟩)
end Go.Proofs.Qxb6500887aGreat
