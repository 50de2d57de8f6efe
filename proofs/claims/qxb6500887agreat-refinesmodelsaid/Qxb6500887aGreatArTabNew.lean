/- packed.New. -/
import Derived.Test.Qxb6500887aGreatArTab
import Derived.Deep.RegionWith
import Derived.Deep.OwnRows
namespace Go.Proofs.Qxb6500887aGreat
open Go.RowKit
set_option linter.unusedSimpArgs false
set_option linter.unusedVariables false

theorem info_u64 : (Tryz.prog.info? 29).map (fun i => (i.zero, i.size, i.bytes)) = some (some (.int .u64 0), 1, 8) := by kernel_rfl
theorem made_u64 (n : Nat) : madeCells #[Value.int .u64 0] n = ((List.replicate n 0).map fun (x : Nat) => Value.int .u64 (x : Int)).toArray := by
  apply Array.ext
  · simp [madeCells]
  · intro i h1 h2
    simp [madeCells, Nat.mod_one]

set_option maxRecDepth 100000 in
theorem validWidth_walk (wd : Nat) (h : wd = 1 ∨ wd = 2 ∨ wd = 4) (w : World) :
    Calls Tryz.prog 218 #[.int .u64 wd] w fun e w' => e = .returned (.bool true) ∧ w' = w := by
  rcases h with rfl | rfl | rfl
  all_goals
    go_enter Tryz.func218, Tryz.ntmps218
    go_wp2
    go_ret
    exact ⟨rfl, rfl⟩
set_option maxRecDepth 100000 in
theorem lowBits_walk (wd : Nat) (h : wd = 1 ∨ wd = 2 ∨ wd = 4) (w : World) :
    Calls Tryz.prog 219 #[.int .u64 wd] w fun e w' => e = .returned (.int .u64 ((2 ^ wd - 1 : Nat) : Int)) ∧ w' = w := by
  rcases h with rfl | rfl | rfl
  all_goals
    go_enter Tryz.func219, Tryz.ntmps219
    go_wp2
    go_ret
    exact ⟨rfl, rfl⟩

theorem tab_new (w : World) (n wd j mask len : Nat) (o : Int) : Below w.heap.size w
    ((w.alloc (.cells (madeCells #[.int .u64 0] len) 29)).alloc (.cells #[.slice (some ⟨w.heap.size, 0, none⟩) len len, .int .i64 n, .int .u64 wd, .int .i64 j, .int .u64 mask, .int .u64 o] 216)).drew ∧
    w.heap.size ≤ w.heap.size + 1 ∧ w.heap.size ≤ w.heap.size ∧ w.heap.size + 1 ≠ w.heap.size ∧
    Tab ((w.alloc (.cells (madeCells #[.int .u64 0] len) 29)).alloc (.cells #[.slice (some ⟨w.heap.size, 0, none⟩) len len, .int .i64 n, .int .u64 wd, .int .i64 j, .int .u64 mask, .int .u64 o] 216)).drew
      (w.heap.size + 1) w.heap.size n wd j mask o (List.replicate len 0) := by
  have s1 : ∀ (x : World) (o : Obj), (x.alloc o).heap.size = x.heap.size + 1 := fun x o => by simp
  refine ⟨(Below.alloc (Below.alloc (Below.refl _ _) (Nat.le_refl _) _) (by rw [s1]; omega) _).trans (Drew.below ⟨1, rfl⟩ _), by omega, by omega, by omega, ?_, ?_⟩
  · have := Blk.new (w.alloc (.cells (madeCells #[.int .u64 0] len) 29)) [.slice (some ⟨w.heap.size, 0, none⟩) len len, .int .i64 n, .int .u64 wd, .int .i64 j, .int .u64 mask, .int .u64 o] 216
    rw [s1] at this
    have h2 := this.drewN 1
    rw [List.length_replicate]
    exact h2
  · rw [made_u64]
    exact ((Blk.new w ((List.replicate len 0).map fun (x : Nat) => Value.int .u64 (x : Int)) 29).alloc _).drewN 1

set_option maxRecDepth 100000 in
set_option maxHeartbeats 1000000 in
theorem tabNew_walk (n wd per len : Nat) (h : wd = 1 ∨ wd = 2 ∨ wd = 4) (hpd : 64 / wd = per) (hn : n ≤ 32768) (hlen : (n + per - 1) / per = len) (w : World) :
    Calls Tryz.prog 166 #[.int .i64 n, .int .u64 wd] w fun e w' => ∃ t b o, e = .returned (.tuple #[.pointer (some ⟨t, 0, none⟩), .bool true]) ∧ Below w.heap.size w w' ∧ w.heap.size ≤ t ∧ w.heap.size ≤ b ∧ t ≠ b ∧ Tab w' t b n wd per (2 ^ wd - 1) o (List.replicate len 0) := by
  have HV := hid (fun w => validWidth_walk wd h w)
  have HL := hid (fun w => lowBits_walk wd h w)
  have hw1 : 1 ≤ wd := by omega
  have hw4 : wd ≤ 4 := by omega
  have hp : wd * per = 64 := by rcases h with rfl | rfl | rfl <;> omega
  have hp1 : 1 ≤ per := by rcases h with rfl | rfl | rfl <;> omega
  have hp2 : per ≤ 64 := by rcases h with rfl | rfl | rfl <;> omega
  have hq : 64 / (wd : Int) = (per : Int) := by
    rcases h with rfl | rfl | rfl <;> (subst hpd; omega)
  have hl2 : ((n : Int) + per - 1) / per = (len : Int) := by
    rw [← hlen]
    have : ((n : Int) + per - 1) = ((n + per - 1 : Nat) : Int) := by omega
    rw [this]
    simp
  have hll : len ≤ 32768 := by
    rw [← hlen]
    refine Nat.div_le_of_le_mul ?_
    rcases Nat.lt_or_ge per 2 with e | e
    · have : per = 1 := by omega
      rw [this]; omega
    · have := Nat.mul_le_mul_right 32768 e
      omega
  have hmk := run_make_row' (P := Tryz.prog) 53 29 (.int .u64 0) 8 (by kernel_rfl) info_u64 rfl .i64 .i64 len (by omega) (by omega)
  have hz : (wd == 0) = false := by simp; omega
  have Hh := hid h
  have Hlen := hid hlen
  generalize hM : 2 ^ wd - 1 = mask at *
  clear h hpd hlen
  go_enter Tryz.func166, Tryz.ntmps166
  go_wp2_with (go_at_call 218; refine (HV.out _).mono ?_; rintro e w1 ⟨rfl, rfl⟩)
  go_loopw [7, 8] (fun v u wr => wr = w1 ∧ ∃ (o : Int) (j : Nat), j ≤ per ∧ v = .int .u64 o ∧ u = .int .u64 ((wd * j : Nat) : Int)) (fun _ u _ => 64 - (intOf u).toNat)
  case atStart => exact ⟨rfl, 0, 0, by omega, rfl, rfl⟩
  case round =>
    obtain ⟨rfl, o, j, hj, rfl, rfl⟩ := hrel
    have hjj : wd * j ≤ 64 := by rw [← hp]; exact Nat.mul_le_mul_left _ hj
    by_cases hlt : j < per
    · have h1 : wd * j + wd ≤ 64 := by
        have := Nat.mul_le_mul_left wd hlt
        rw [Nat.succ_eq_add_one, Nat.mul_add] at this
        omega
      have e : wd * (j + 1) = wd * j + wd := by rw [Nat.mul_add]; omega
      have dj : decide (((wd * j : Nat) : Int) < 64) = true := decide_eq_true (by omega)
      have Hn : Hid (wd * (j + 1) = wd * j + wd) := hid e
      generalize wd * j = sj at *
      clear e
      go_wp2
      exact ⟨⟨trivial, _, j + 1, by omega, rfl, by rw [Hn.out]; simp⟩, by simp [intOf]; omega⟩
    · have hje : j = per := by omega
      subst hje
      have dj : decide (((wd * j : Nat) : Int) < 64) = false := decide_eq_false (by omega)
      have dp : (j == 0) = false := by simp; omega
      have dp' : ((j : Int) == 0) = false := by simp; omega
      go_wp2_with fail
      go_region_with (go_at_call 219; refine (HL.out _).mono ?_; rintro e wq ⟨rfl, rfl⟩)
      all_goals go_wp2
      all_goals
        refine bodyPost_ret (v := .tuple #[.pointer (some ⟨wr.heap.size + 1, 0, none⟩), .bool true]) (by simp [results, Tryz.results166, go_sem]) rfl ⟨wr.heap.size + 1, wr.heap.size, o, rfl, ?_⟩
        exact tab_new wr n wd j mask len o

/-- The table at t reads as the list vals. -/
def TabR (w : World) (t b n wd per : Nat) (vals : List Nat) : Prop :=
  ∃ (o : Int) (ws : List Nat), Tab w t b n wd per (2 ^ wd - 1) o ws ∧ t ≠ b ∧ ws.length ≤ 65536 ∧ (∀ x ∈ ws, x < 18446744073709551616) ∧ vals.length = n ∧ ∀ i, i < n → ∃ x, ws[i / per]? = some x ∧ vals[i]? = some (ent x (i % per * wd) (2 ^ wd - 1))
theorem TabR.below {w w' : World} {t b n wd per : Nat} {vals : List Nat} (h : TabR w t b n wd per vals) (hb : Below w.heap.size w w') : TabR w' t b n wd per vals := by
  obtain ⟨o, ws, h1, h2⟩ := h
  exact ⟨o, ws, h1.below hb, h2⟩
theorem TabR.upd {w w' : World} {t b n wd per g : Nat} {vals : List Nat} (h : TabR w t b n wd per vals) (hu : Upd g w w') (ht : t ≠ g) (hb : b ≠ g) : TabR w' t b n wd per vals := by
  obtain ⟨o, ws, h1, h2⟩ := h
  exact ⟨o, ws, h1.upd hu ht hb, h2⟩
theorem TabR.lt {w : World} {t b n wd per : Nat} {vals : List Nat} (h : TabR w t b n wd per vals) : t < w.heap.size ∧ b < w.heap.size := by
  obtain ⟨o, ws, h1, h2⟩ := h
  exact ⟨h1.tb.lt, h1.wb.lt⟩
theorem TabR.zero {w : World} {t b n wd per len : Nat} {o : Int} (h : Tab w t b n wd per (2 ^ wd - 1) o (List.replicate len 0)) (htb : t ≠ b) (hp : 1 ≤ per) (hl : len ≤ 65536) (hn : n ≤ per * len) : TabR w t b n wd per (List.replicate n 0) := by
  refine ⟨o, _, h, htb, by simpa using hl, fun x hx => by rw [List.eq_of_mem_replicate hx]; omega, by simp, fun i hi => ⟨0, ?_, ?_⟩⟩
  · rw [List.getElem?_replicate, if_pos (Nat.div_lt_of_lt_mul (by omega))]
  · rw [List.getElem?_replicate, if_pos hi]
    simp [ent]
theorem two_small {wd : Nat} (hw : wd ≤ 4) : 2 ^ wd - 1 < 18446744073709551616 := by
  have : 2 ^ wd ≤ 2 ^ 4 := Nat.pow_le_pow_right (by omega) hw
  omega
theorem tabR_get {w : World} {t b n wd per : Nat} {vals : List Nat} (h : TabR w t b n wd per vals) (i : Nat) (hi : i < n) (hn : n ≤ 32768) (hp : 1 ≤ per) (hp' : per ≤ 64) (hw : wd ≤ 4) (hpw : per * wd = 64) (v : Nat) (hv : vals[i]? = some v) :
    Calls Tryz.prog 153 #[.pointer (some ⟨t, 0, none⟩), .int .i64 i] w fun e w' => e = .returned (.tuple #[.int .u64 (v : Int), .bool true]) ∧ Drew w w' := by
  obtain ⟨o, ws, h1, h2, h3, h4, h5, h6⟩ := h
  obtain ⟨x, hx, hvx⟩ := h6 i hi
  rw [hv] at hvx
  obtain rfl := Option.some.inj hvx
  exact tabGet_walk h1 i hi hn hp hp' hw hpw x hx h3 (h4 x (List.mem_of_getElem? hx)) (two_small hw)
theorem tabR_set {w : World} {t b n wd per : Nat} {vals : List Nat} (h : TabR w t b n wd per vals) (i v : Nat) (hv : v ≤ 2 ^ wd - 1) (hi : i < n) (hn : n ≤ 32768) (hp : 1 ≤ per) (hp' : per ≤ 64) (hw : wd ≤ 4) (hpw : per * wd = 64) :
    Calls Tryz.prog 172 #[.pointer (some ⟨t, 0, none⟩), .int .i64 i, .int .u64 v] w fun e w' => e = .returned (.bool true) ∧ Upd b w w' ∧ TabR w' t b n wd per (vals.set i v) := by
  obtain ⟨o, ws, h1, h2, h3, h4, h5, h6⟩ := h
  obtain ⟨x, hx, hvx⟩ := h6 i hi
  have hx64 := h4 x (List.mem_of_getElem? hx)
  have sh : ∀ k, k % per * wd + wd ≤ 64 := fun k => by
    have a1 : k % per < per := Nat.mod_lt _ (by omega)
    have a2 : (k % per + 1) * wd ≤ per * wd := Nat.mul_le_mul_right _ a1
    rw [Nat.add_mul] at a2
    omega
  refine (tabSet_walk h1 h2 i v hv hi hn hp hp' hw hpw rfl x hx h3 hx64 (two_small hw)).mono ?_
  rintro e w1 ⟨rfl, hu, ht⟩
  refine ⟨rfl, hu, o, _, ht, h2, by simpa using h3, fun y hy => ?_, by simpa using h5, fun k hk => ?_⟩
  · rcases List.mem_or_eq_of_mem_set hy with hy | rfl
    · exact h4 y hy
    · have := putE_lt (x := x) (v := v) (sh i) hx64 hv
      exact this
  · obtain ⟨y, hy, hvy⟩ := h6 k hk
    by_cases hq : i / per = k / per
    · have hxy : y = x := by rw [hq, hy] at hx; exact Option.some.inj hx
      subst hxy
      refine ⟨_, by rw [hq, List.getElem?_set_self (List.getElem?_eq_some_iff.1 hy).1], ?_⟩
      by_cases hik : i = k
      · subst hik
        rw [List.getElem?_set_self (by omega), ent_same (sh i) hv]
      · rw [List.getElem?_set_ne hik, hvy, ent_other (sh i) (sh k) hv]
        have hm : i % per ≠ k % per := fun e => hik (by rw [← Nat.div_add_mod i per, ← Nat.div_add_mod k per, hq, e])
        rcases Nat.lt_or_ge (k % per) (i % per) with c | c
        · left
          have := Nat.mul_le_mul_right wd c
          rw [Nat.succ_eq_add_one, Nat.add_mul] at this
          omega
        · right
          have := Nat.mul_le_mul_right wd (show i % per + 1 ≤ k % per by omega)
          rw [Nat.add_mul] at this
          omega
    · have hik : i ≠ k := fun e => hq (by rw [e])
      exact ⟨y, by rw [List.getElem?_set_ne hq]; exact hy, by rw [List.getElem?_set_ne hik]; exact hvy⟩

set_option maxRecDepth 100000 in
theorem mustTable_walk (n wd per len : Nat) (h : wd = 1 ∨ wd = 2 ∨ wd = 4) (hpd : 64 / wd = per) (hn : n ≤ 32768) (hlen : (n + per - 1) / per = len) (w : World) :
    Calls Tryz.prog 55 #[.int .i64 n, .int .u64 wd] w fun e w' => ∃ t b, e = .returned (.pointer (some ⟨t, 0, none⟩)) ∧ Below w.heap.size w w' ∧ w.heap.size ≤ t ∧ w.heap.size ≤ b ∧ TabR w' t b n wd per (List.replicate n 0) := by
  have HN := hid (fun w => tabNew_walk n wd per len h hpd hn hlen w)
  have hp : 1 ≤ per := by rcases h with rfl | rfl | rfl <;> omega
  have hl : len ≤ 65536 := by
    rw [← hlen]
    have := Nat.div_le_self (n + per - 1) per
    have h2 : per ≤ 64 := by rcases h with rfl | rfl | rfl <;> omega
    omega
  have hnl : n ≤ per * len := by
    rw [← hlen]
    have h3 := Nat.div_add_mod (n + per - 1) per
    have h4 := Nat.mod_lt (n + per - 1) (show per > 0 by omega)
    omega
  have Hp := hid (And.intro hp (And.intro hl hnl))
  clear h hpd hlen hp hl hnl
  go_enter Tryz.func55, Tryz.ntmps55
  go_wp2_with fail
  refine (HN.out _).mono ?_
  rintro e w1 ⟨t, b, o, rfl, hb, ht, hbb, hne, htab⟩
  have HZ := hid (TabR.zero htab hne Hp.out.1 Hp.out.2.1 Hp.out.2.2)
  clear htab
  go_wp2
  go_ret
  exact ⟨t, b, rfl, hb, ht, hbb, HZ.out⟩
end Go.Proofs.Qxb6500887aGreat
