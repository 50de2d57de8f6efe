/- Walk: the plain state; Done, Links, Steps, Left. -/
import Derived.Test.Qxb6500891aPtAt
namespace Go.Proofs.Qxb6500891a
open Go.RowKit
set_option linter.unusedSimpArgs false
set_option linter.unusedVariables false

structure Lvl where
  l : List Nat
  sp : List Sp
  nx : Nat
  nd : Bool
structure WS where
  lv : List Lvl
  links : Nat
  steps : Nat
  tk : Bool
  tn : Bool
/-- A level in the cells from o on. -/
structure LvOk (cs : List Value) (o : Nat) (L : Lvl) : Prop where
  path : PathOk cs o L.l L.sp
  nx : cs[o + 897]? = some (.int .i64 (L.nx : Int))
  nd : cs[o + 898]? = some (.bool L.nd)
  lt : L.nx < L.sp.length
structure WOk (cs : List Value) (S : WS) : Prop where
  len0 : cs.length = 8096 ∧ ∀ v ∈ cs, v.oneCell' = true
  lv : ∀ k L, S.lv[k]? = some L → LvOk cs (k * 899) L
  dp : cs[8091]? = some (.int .i64 (S.lv.length : Int))
  lk : cs[8092]? = some (.int .i64 (S.links : Int))
  st : cs[8093]? = some (.int .i64 (S.steps : Int))
  tk : cs[8094]? = some (.bool S.tk)
  tn : cs[8095]? = some (.bool S.tn)
theorem WOk.len {cs : List Value} {S : WS} (h : WOk cs S) : cs.length = 8096 := h.len0.1
theorem WOk.one {cs : List Value} {S : WS} (h : WOk cs S) : ∀ v ∈ cs, v.oneCell' = true := h.len0.2
def leftL (lv : List Lvl) : Nat := (lv.map fun L => L.sp.length - L.nx).sum
structure WInv (S : WS) : Prop where
  dl : S.lv.length ≤ S.links + 1
  l8 : S.links ≤ 8
  sum : S.steps + leftL S.lv ≤ 128 * (S.links + 1)
  nd : ∀ k L, 1 ≤ k → S.lv[k]? = some L → L.nd = true
  tn : S.tk = true → S.lv ≠ [] → S.tn = true
theorem WInv.d9 {S : WS} (h : WInv S) : S.lv.length ≤ 9 := by have := h.dl; have := h.l8; omega
theorem PathOk.keep {cs ds : List Value} {o : Nat} {l : List Nat} {sp : List Sp} (h : PathOk cs o l sp) (hk : ∀ i, o ≤ i → i < o + 897 → ds[i]? = cs[i]?) : PathOk ds o l sp := by
  have h1 := h.n128
  have h2 := h.n255
  refine ⟨?_, ?_, fun k x hx => ?_, ⟨fun i s hi j v hv => ?_, h.cp.ok⟩, h2, h1, h.bytes, h.slash, h.vw⟩
  · rw [hk _ (by omega) (by omega)]; exact h.sz
  · rw [hk _ (by omega) (by omega)]; exact h.ct
  · have := (List.getElem?_eq_some_iff.1 hx).1
    rw [hk _ (by omega) (by omega)]; exact h.raw k x hx
  · have h3 := (List.getElem?_eq_some_iff.1 hi).1
    have h4 := (List.getElem?_eq_some_iff.1 hv).1
    have h5 : (spC l s).length = 5 := rfl
    rw [hk _ (by omega) (by omega)]; exact h.cp.cell i s hi j v hv
theorem LvOk.keep {cs ds : List Value} {o : Nat} {L : Lvl} (h : LvOk cs o L) (hk : ∀ i, o ≤ i → i < o + 899 → ds[i]? = cs[i]?) : LvOk ds o L :=
  ⟨h.path.keep (fun i a b => hk i a (by omega)), by rw [hk _ (by omega) (by omega)]; exact h.nx, by rw [hk _ (by omega) (by omega)]; exact h.nd, h.lt⟩
theorem leftL_nil : leftL [] = 0 := rfl
theorem leftL_snoc (ls : List Lvl) (L : Lvl) : leftL (ls ++ [L]) = leftL ls + (L.sp.length - L.nx) := by unfold leftL; simp
theorem WOk.cells {cs : List Value} {S : WS} (h : WOk cs S) {w : World} {g : Nat} {t : TypeId} (hb : Blk w g t cs) :
    w.cell? ⟨g, 8091, none⟩ = some (.int .i64 (S.lv.length : Int)) ∧ w.cell? ⟨g, 8092, none⟩ = some (.int .i64 (S.links : Int)) ∧ w.cell? ⟨g, 8093, none⟩ = some (.int .i64 (S.steps : Int)) ∧ w.cell? ⟨g, 8094, none⟩ = some (.bool S.tk) ∧ w.cell? ⟨g, 8095, none⟩ = some (.bool S.tn) := by
  refine ⟨?_, ?_, ?_, ?_, ?_⟩
  · rw [hb.cell]; exact h.dp
  · rw [hb.cell]; exact h.lk
  · rw [hb.cell]; exact h.st
  · rw [hb.cell]; exact h.tk
  · rw [hb.cell]; exact h.tn

set_option maxRecDepth 1000000 in
set_option maxHeartbeats 2000000 in
theorem done_walk (g : Nat) (t : TypeId) (cs : List Value) (S : WS) (w : World) (hb : Blk w g t cs) (hk : WOk cs S) :
    Calls Try.prog 33 #[.pointer (some ⟨g, 0, none⟩)] w fun e w' => e = .returned (.bool S.lv.isEmpty) ∧ w' = w := by
  have c1 := (hk.cells hb).1
  have he : ((S.lv.length : Int) == 0) = S.lv.isEmpty := by cases S.lv <;> simp; omega
  clear hb hk
  generalize S.lv.isEmpty = em at *
  generalize S.lv.length = d at *
  go_enter Try.func33, Try.ntmps33
  go_wp2
  go_ret
  exact ⟨rfl, rfl⟩
set_option maxRecDepth 1000000 in
set_option maxHeartbeats 2000000 in
theorem links_walk (g : Nat) (t : TypeId) (cs : List Value) (S : WS) (w : World) (hb : Blk w g t cs) (hk : WOk cs S) :
    Calls Try.prog 34 #[.pointer (some ⟨g, 0, none⟩)] w fun e w' => e = .returned (.int .i64 (S.links : Int)) ∧ w' = w := by
  have c1 := (hk.cells hb).2.1
  clear hb hk
  go_enter Try.func34, Try.ntmps34
  go_wp2
  go_ret
  exact ⟨rfl, rfl⟩
set_option maxRecDepth 1000000 in
set_option maxHeartbeats 2000000 in
theorem steps_walk (g : Nat) (t : TypeId) (cs : List Value) (S : WS) (w : World) (hb : Blk w g t cs) (hk : WOk cs S) :
    Calls Try.prog 35 #[.pointer (some ⟨g, 0, none⟩)] w fun e w' => e = .returned (.int .i64 (S.steps : Int)) ∧ w' = w := by
  have c1 := (hk.cells hb).2.2.1
  clear hb hk
  go_enter Try.func35, Try.ntmps35
  go_wp2
  go_ret
  exact ⟨rfl, rfl⟩
theorem slice_lv (ad : Addr) (n : Nat) (hn : n ≤ 9) (w : World) : (Instr.sliceAt 66 (.pointer (some ad)) none (some (.int .i64 (n : Int))) none).run Try.prog w = .ok (.slice (some ad) n 9) w := by
  have hal : Try.prog.arrayLen 66 = 9 := by kernel_rfl
  rw [run_sliceAt_array_h w 66 ad (by kernel_rfl) .i64 (n : Int) (by omega) (by rw [hal]; omega)]
  simp [slicedAt, hal, go_sem, Addr.add]
theorem left_take (lv : List Lvl) {k : Nat} {L : Lvl} (h : lv[k]? = some L) : leftL (lv.take (k + 1)) = leftL (lv.take k) + (L.sp.length - L.nx) := by
  rw [List.take_add_one, h]
  exact leftL_snoc _ _
theorem left_le (lv : List Lvl) (k : Nat) (h : ∀ (j : Nat) (L : Lvl), lv[j]? = some L → L.sp.length ≤ 128) : leftL (lv.take k) ≤ 128 * k := by
  induction k with
  | zero => simp [leftL]
  | succ k ih =>
    rw [List.take_add_one]
    cases hl : lv[k]? with
    | none => rw [Option.toList_none, List.append_nil]; omega
    | some L =>
      have := h k L hl
      rw [Option.toList_some, leftL_snoc]
      omega
set_option maxRecDepth 1000000 in
set_option maxHeartbeats 2000000 in
theorem left_walk (g : Nat) (t : TypeId) (cs : List Value) (S : WS) (w : World) (hb : Blk w g t cs) (hk : WOk cs S) (h9 : S.lv.length ≤ 9) :
    Calls Try.prog 31 #[.pointer (some ⟨g, 0, none⟩)] w fun e w' => e = .returned (.int .i64 (leftL S.lv : Int)) ∧ Below w.heap.size w w' := by
  have HP0 : Hid (Pb w g t cs w) := hid ⟨Below.refl _ _, hb⟩
  have HK := hid hk
  have hsl := fun w' => slice_lv ⟨g, 0, none⟩ S.lv.length h9 w'
  have hb8 : ∀ (j : Nat) (L : Lvl), S.lv[j]? = some L → L.sp.length ≤ 128 := fun j L h => (hk.lv j L h).path.n128
  have HB8 := hid hb8
  obtain ⟨d, hd⟩ : ∃ d, S.lv.length = d := ⟨_, rfl⟩
  have c0 : ∀ nn, (w.drewN nn).cell? ⟨g, 8091, none⟩ = some (.int .i64 (d : Int)) := fun nn => by have := (hk.cells hb).1; rw [hd] at this; exact this
  have Hd := hid hd
  rw [hd] at hsl h9
  clear hb hk hb8 hd
  go_enter Try.func31, Try.ntmps31
  go_upto_region 2 with fail
  go_quiet (fail)
  have HP1 : Hid (Pb w g t cs (w.drewN nq)) := hid (HP0.out.below (Drew.below ⟨nq, rfl⟩ _))
  generalize w.drewN nq = w1 at HP1 ⊢
  clear c0 hsl
  go_wp2_with fail
  go_loopw [3, 14] (fun v i wr => ∃ k : Nat, k ≤ d ∧ v = .int .i64 (leftL (S.lv.take k) : Int) ∧ i = .int .i64 k ∧ Hid (Pb w g t cs wr)) (fun _ i _ => d - (intOf i).toNat)
  case atStart => exact ⟨0, by omega, by simp [leftL], rfl, HP1⟩
  case round =>
    obtain ⟨k, hk, rfl, rfl, HP⟩ := hrel
    by_cases hlt : k < d
    rotate_left
    · have hkd : k = d := by omega
      have dk : decide ((k : Int) < (d : Int)) = false := decide_eq_false (by omega)
      have ht : S.lv.take k = S.lv := List.take_of_length_le (by rw [Hd.out]; omega)
      rw [ht]
      obtain ⟨m, hm⟩ : ∃ m, leftL S.lv = m := ⟨_, rfl⟩
      rw [hm]
      have Hm := hid hm
      clear hm ht
      go_wp2
      go_ret
      exact ⟨by rw [Hm.out]; rfl, HP.out.bel⟩
    · have dk : decide ((k : Int) < (d : Int)) = true := decide_eq_true (by omega)
      obtain ⟨L, hL⟩ : ∃ L, S.lv[k]? = some L := ⟨_, List.getElem?_eq_getElem (show k < S.lv.length by rw [Hd.out]; omega)⟩
      have hlo := HK.out.lv k L hL
      have hl8 := HB8.out k L hL
      have hlt' := hlo.lt
      have ht := left_take S.lv hL
      have hle := left_le S.lv k HB8.out
      obtain ⟨m, hm⟩ : ∃ m, leftL (S.lv.take k) = m := ⟨_, rfl⟩
      rw [hm] at ht hle ⊢
      obtain ⟨X, W, hT, hI⟩ := class_mk (Pb w g t cs)
      have c1 : ∀ x, (W x).cell? ⟨g, k * 899 + 897, none⟩ = some (.int .i64 (L.nx : Int)) := fun x => by rw [(hT x).blk.cell]; exact hlo.nx
      have HLn : Hid (∀ x, Calls Try.prog 14 #[.pointer (some ⟨g, k * 899, none⟩)] (W x) fun e w' => e = .returned (.int .i64 (L.sp.length : Int)) ∧ w' = W x) := hid (fun x => pathLen_walk g (k * 899) t cs L.l L.sp (W x) (hT x).blk hlo.path)
      have H0 : Hid (∃ x, wr.drew = W x) := hid (hI _ (HP.out.below (Drew.below ⟨1, rfl⟩ _)))
      have hne : Nonempty X := ⟨H0.out.choose⟩
      have HTT := hid hT
      have i9 : (k : Int) < 9 := by omega
      clear hlo hT hI
      go_upto_region 5 with fail
      refine wp_region_class W (by kernel_rfl) (by kernel_rfl) H0.out ?_
      repeat (go_big_quiet_step ((go_at_call 14; exact Calls.class_same (HLn.out _))))
      refine wpQuiet_nil ?_
      intro x
      have HPe := hid (HTT.out x)
      generalize W x = w9 at HPe ⊢
      clear c1 HLn HTT H0
      go_wp2
      exact ⟨⟨k + 1, by omega, by rw [ht]; congr 1; omega, by go_num, HPe⟩, by simp [intOf]; omega⟩
end Go.Proofs.Qxb6500891a
