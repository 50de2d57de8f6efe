/- Rows of addresses read; counting maps; sameBag. -/
import Derived.Test.Qxb6500888aBaOp
namespace Go.Proofs.Qxb6500888a
open Go.RowKit
set_option linter.unusedSimpArgs false
set_option linter.unusedVariables false

/-- A row of addresses that can be read. -/
structure RdA (w : World) (a : Option Addr) (n : Nat) (xs : List Nat) : Prop where
  len : xs.length = n
  at_ : ∀ (i x : Nat), xs[i]? = some x → ∃ g off, a = some ⟨g, off, none⟩ ∧ g < w.heap.size ∧ w.cell? ⟨g, off + i, none⟩ = some (.int .u64 (x : Int))
theorem RdA.below {w w' : World} {a : Option Addr} {n : Nat} {xs : List Nat} (h : RdA w a n xs) (hb : Below w.heap.size w w') : RdA w' a n xs :=
  ⟨h.len, fun i x hx => by
    obtain ⟨g, off, h1, h2, h3⟩ := h.at_ i x hx
    exact ⟨g, off, h1, Nat.lt_of_lt_of_le h2 hb.size, by rw [World.cell?_of_block (hb.block g h2)]; exact h3⟩⟩
theorem RdA.of {w w' : World} {a : Option Addr} {n : Nat} {xs : List Nat} (h : RdA w a n xs) (hz : w.heap.size ≤ w'.heap.size) (hb : ∀ g off, a = some ⟨g, off, none⟩ → g < w.heap.size → w'.heap[g]? = w.heap[g]?) : RdA w' a n xs :=
  ⟨h.len, fun i x hx => by
    obtain ⟨g, off, h1, h2, h3⟩ := h.at_ i x hx
    exact ⟨g, off, h1, Nat.lt_of_lt_of_le h2 hz, by rw [World.cell?_of_block (hb g off h1 h2)]; exact h3⟩⟩
theorem RdA.nil (w : World) (a : Option Addr) : RdA w a 0 [] := ⟨rfl, fun i x hx => by simp at hx⟩
theorem RowX.rdA {w : World} {ρ : Rl} {c : Nat} {v : Value} {xs : List Nat} (h : RowX rtA w ρ c v xs) : ∃ a q, v = .slice a xs.length q ∧ RdA w a xs.length xs ∧ xs.length ≤ q ∧ q ≤ maxLen := by
  obtain ⟨a, q, rfl⟩ := h.shape
  have hc := h.cap
  refine ⟨a, q, rfl, ⟨rfl, fun i x hx => ?_⟩, hc.2, hc.1⟩
  obtain ⟨g, q', e, hg, hcell⟩ := h.get (K := rtA) (by decide) (fun _ => rfl) hx
  injection e with e1 e2 e3
  have h0 := hcell 0 (by decide)
  have e4 : i * rtA.n + 0 = 0 + i := by show i * 1 + 0 = 0 + i; omega
  rw [e4] at h0
  exact ⟨g, 0, e1, hg, h0⟩
/-- A map that counts. -/
def Cn (w : World) (m : Nat) (c : Nat → Nat) : Prop := ∃ f, MF w m f ∧ ∀ a, (f a).getD (.int .i64 0) = .int .i64 (c a : Int)
section
variable {w w' : World} {m : Nat} {c : Nat → Nat}
theorem Cn.lt (h : Cn w m c) : m < w.heap.size := by
  obtain ⟨f, h1, h2⟩ := h
  exact h1.lt
theorem Cn.of (h : Cn w m c) (he : w'.heap[m]? = w.heap[m]?) : Cn w' m c := by
  obtain ⟨f, h1, h2⟩ := h
  exact ⟨f, h1.of he, h2⟩
theorem Cn.new (w : World) {m : Nat} (hm : w.heap.size = m) : Cn (w.alloc (.map #[] 0)) m (fun _ => 0) := ⟨_, MF.new w hm, fun a => rfl⟩
theorem Cn.congr {d : Nat → Nat} (h : Cn w m c) (hd : ∀ a, d a = c a) : Cn w m d := by
  have : d = c := funext hd
  rw [this]
  exact h
theorem Cn.look (h : Cn w m c) (k : Nat) : (Instr.lookup 71 (.map (some m)) (.int .u64 (k : Int)) false).run Try.prog w = .ok (.int .i64 (c k : Int)) w := by
  obtain ⟨f, h1, h2⟩ := h
  have := h1.look (P := Try.prog) (mt := 71) (kt := 48) (vt := 3) Try.underlying71 Try.underlying48 k zero_int
  rw [h2] at this
  exact this
theorem Cn.put (h : Cn w m c) (k x : Nat) : ∃ w', (Instr.mapUpdate 71 (.map (some m)) (.int .u64 (k : Int)) (.int .i64 (x : Int))).run Try.prog w = .ok () w' ∧ Cn w' m (fup c k x) ∧ Upd m w w' := by
  obtain ⟨f, h1, h2⟩ := h
  obtain ⟨w', g1, g2, g3⟩ := h1.put (P := Try.prog) (mt := 71) (kt := 48) (vt := 3) Try.underlying71 Try.underlying48 k (.int .i64 (x : Int))
  refine ⟨w', g1, ⟨_, g2, fun a => ?_⟩, g3⟩
  by_cases e : a = k
  · subst e; rw [fup_self, fup_self]; rfl
  · rw [fup_ne _ _ e, fup_ne _ _ e]; exact h2 a
end
theorem count_take {xs : List Nat} {i x : Nat} (h : xs[i]? = some x) (a : Nat) : (xs.take (i + 1)).count a = fup (fun a => (xs.take i).count a) x ((xs.take i).count x + 1) a := by
  have hi := (List.getElem?_eq_some_iff.1 h)
  obtain ⟨hlt, hx⟩ := hi
  rw [List.take_add_one, h, Option.toList_some, List.count_append]
  by_cases e : a = x
  · subst e; rw [fup_self]; simp
  · rw [fup_ne _ _ e]; simp [Ne.symm e]
theorem count_le_len (xs : List Nat) (i a : Nat) : (xs.take i).count a ≤ xs.length := by
  have h1 := List.count_le_length (a := a) (l := xs.take i)
  rw [List.length_take] at h1
  omega
/-- What a count loop keeps. -/
structure SbI (w : World) (nB : Nat) (xa ya : Option Addr) (n : Nat) (xs ys : List Nat) (c : Nat → Nat) (wr : World) : Prop where
  x : RdA wr xa n xs
  y : RdA wr ya n ys
  cn : Cn wr nB c
  bel : Below w.heap.size w wr
  lo : w.heap.size ≤ nB
  xlo : ∀ g off, xa = some ⟨g, off, none⟩ → xs ≠ [] → g < w.heap.size
  ylo : ∀ g off, ya = some ⟨g, off, none⟩ → ys ≠ [] → g < w.heap.size
theorem SbI.put {w wr : World} {nB : Nat} {xa ya : Option Addr} {n : Nat} {xs ys : List Nat} {c : Nat → Nat} (h : SbI w nB xa ya n xs ys c wr) (k x : Nat) : ∃ w', (Instr.mapUpdate 71 (.map (some nB)) (.int .u64 (k : Int)) (.int .i64 (x : Int))).run Try.prog wr = .ok () w' ∧ SbI w nB xa ya n xs ys (fup c k x) w' := by
  obtain ⟨w', h1, h2, h3⟩ := h.cn.put k x
  refine ⟨w', h1, ⟨h.x.len, fun i z hz => ?_⟩, ⟨h.y.len, fun i z hz => ?_⟩, h2, h.bel.trans (h3.below h.lo h.bel.size), h.lo, h.xlo, h.ylo⟩
  · obtain ⟨g, off, e1, e2, e3⟩ := h.x.at_ i z hz
    have hg := h.xlo g off e1 (fun e => by rw [e] at hz; simp at hz)
    have hlo := h.lo
    exact ⟨g, off, e1, Nat.lt_of_lt_of_le e2 h3.size, by rw [World.cell?_of_block (h3.block g e2 (by omega))]; exact e3⟩
  · obtain ⟨g, off, e1, e2, e3⟩ := h.y.at_ i z hz
    have hg := h.ylo g off e1 (fun e => by rw [e] at hz; simp at hz)
    have hlo := h.lo
    exact ⟨g, off, e1, Nat.lt_of_lt_of_le e2 h3.size, by rw [World.cell?_of_block (h3.block g e2 (by omega))]; exact e3⟩
set_option maxRecDepth 100000 in
set_option maxHeartbeats 2000000 in
theorem sameBag_walk (w : World) (xa ya : Option Addr) (n xq yq : Nat) (xs ys : List Nat) (hx : RdA w xa n xs) (hy : RdA w ya n ys) (hp : xs.Perm ys) (hn : n ≤ 1000000000000000) :
    Calls Try.prog 27 #[.slice xa n xq, .slice ya n yq] w fun e w' => e = .returned (.bool true) ∧ Below w.heap.size w w' := by
  obtain ⟨nB, hnB⟩ : ∃ b, w.heap.size = b := ⟨_, rfl⟩
  have HI : Hid (SbI w nB xa ya n xs ys (fun a => (xs.take 0).count a) (w.alloc (.map #[] 0))) := hid (by
    have hb := nbel w (.map #[] 0)
    refine ⟨hx.below hb, hy.below hb, (Cn.new w hnB).congr (fun a => by simp), hb, by omega, fun g off e hne => ?_, fun g off e hne => ?_⟩
    · obtain ⟨y, l, rfl⟩ := List.exists_cons_of_ne_nil hne
      obtain ⟨g', off', e1, e2, e3⟩ := hx.at_ 0 y rfl
      rw [e] at e1
      cases e1
      exact e2
    · obtain ⟨y, l, rfl⟩ := List.exists_cons_of_ne_nil hne
      obtain ⟨g', off', e1, e2, e3⟩ := hy.at_ 0 y rfl
      rw [e] at e1
      cases e1
      exact e2)
  have HX := hid hx.len
  have HY := hid hy.len
  have HP := hid hp
  clear hx hy hp
  have hmk := @run_makeMap Try.prog
  have d0 : (!((n : Int) == (n : Int))) = false := by simp
  go_enter Try.func27, Try.ntmps27
  go_upto_region 4 with fail
  try simp only [hnB]
  generalize w.alloc (.map #[] 0) = w2 at HI ⊢
  clear hmk hnB
  go_wp2_with fail
  go_loopw [18] (fun v wr => ∃ i : Nat, i ≤ n ∧ v = .int .i64 (i : Int) ∧ Hid (SbI w nB xa ya n xs ys (fun a => (xs.take i).count a) wr)) (fun v _ => n - (intOf v).toNat)
  case atStart => exact ⟨0, by omega, rfl, HI⟩
  case round =>
  clear HI
  obtain ⟨i, hi, rfl, HI⟩ := hrel
  by_cases hin : i < n
  · as_aux_lemma =>
    have di : decide ((i : Int) < (n : Int)) = true := decide_eq_true (by omega)
    have hii : (i : Int) < (n : Int) := by omega
    obtain ⟨x, hx⟩ : ∃ x, xs[i]? = some x := ⟨xs[i]'(by rw [HX.out]; exact hin), List.getElem?_eq_getElem _⟩
    obtain ⟨g, off, rfl, hg, hc⟩ := HI.out.x.at_ i x hx
    obtain ⟨z, hz⟩ : ∃ z, (xs.take i).count x = z := ⟨_, rfl⟩
    have hl := HI.out.cn.look x
    rw [hz] at hl
    have hz1 : (z : Int) ≤ 1000000000000000 := by have := count_le_len xs i x; rw [hz, HX.out] at this; omega
    obtain ⟨w3, hput, hI3⟩ := HI.out.put x (z + 1)
    have HI3 : Hid (SbI w nB (some ⟨g, off, none⟩) ya n xs ys (fun a => (xs.take (i + 1)).count a) w3) := hid (by
      have e : (fun a => (xs.take (i + 1)).count a) = fup (fun a => (xs.take i).count a) x (z + 1) := by funext a; rw [count_take hx, hz]
      rw [e]
      exact hI3)
    have hput' : (Instr.mapUpdate 71 (.map (some nB)) (.int .u64 (x : Int)) (.int .i64 ((z : Int) + 1))).run Try.prog wr = .ok () w3 := hput
    clear hput hI3 HI hz hx hg
    go_wp2
    exact ⟨⟨i + 1, by omega, by go_num, HI3⟩, by simp [intOf]; omega⟩
  · as_aux_lemma =>
    have di : decide ((i : Int) < (n : Int)) = false := decide_eq_false (by omega)
    have HI0 : Hid (SbI w nB xa ya n xs ys (fun a => xs.count a - (ys.take 0).count a) wr) := hid (by
      have e : (fun a => xs.count a - (ys.take 0).count a) = fun a => (xs.take i).count a := by
        funext a
        rw [List.take_of_length_le (l := xs) (by rw [HX.out]; omega)]
        simp
      rw [e]
      exact HI.out)
    clear HI
    go_wp2_with fail
    go_loopw [29] (fun v wr => ∃ j : Nat, j ≤ n ∧ v = .int .i64 (j : Int) ∧ Hid (SbI w nB xa ya n xs ys (fun a => xs.count a - (ys.take j).count a) wr)) (fun v _ => n - (intOf v).toNat)
    case atStart => exact ⟨0, by omega, rfl, HI0⟩
    case round =>
    clear HI0 di hin hi
    obtain ⟨j, hj, rfl, HI⟩ := hrel
    by_cases hjn : j < n
    · as_aux_lemma =>
      have di : decide ((j : Int) < (n : Int)) = true := decide_eq_true (by omega)
      have hii : (j : Int) < (n : Int) := by omega
      obtain ⟨y, hy⟩ : ∃ y, ys[j]? = some y := ⟨ys[j]'(by rw [HY.out]; exact hjn), List.getElem?_eq_getElem _⟩
      obtain ⟨g, off, rfl, hg, hc⟩ := HI.out.y.at_ j y hy
      have hcy := count_take hy y
      rw [fup_self] at hcy
      have hle : (ys.take (j + 1)).count y ≤ xs.count y := by
        rw [HP.out.count_eq]
        exact (List.take_sublist _ _).count_le _
      obtain ⟨z, hz⟩ : ∃ z, xs.count y - (ys.take (j + 1)).count y = z := ⟨_, rfl⟩
      have hz2 : xs.count y - (ys.take j).count y = z + 1 := by omega
      have hl := HI.out.cn.look y
      rw [hz2] at hl
      have hl' : (Instr.lookup 71 (.map (some nB)) (.int .u64 (y : Int)) false).run Try.prog wr = .ok (.int .i64 ((z : Int) + 1)) wr := hl
      have hz1 : (z : Int) ≤ 1000000000000000 := by have := List.count_le_length (a := y) (l := xs); rw [HX.out] at this; omega
      have hz0 : (0 : Int) ≤ (z : Int) := by omega
      obtain ⟨w3, hput, hI3⟩ := HI.out.put y z
      have HI3 : Hid (SbI w nB xa (some ⟨g, off, none⟩) n xs ys (fun a => xs.count a - (ys.take (j + 1)).count a) w3) := hid (by
        have e : (fun a => xs.count a - (ys.take (j + 1)).count a) = fup (fun a => xs.count a - (ys.take j).count a) y z := by
          funext a
          by_cases e : a = y
          · subst e; rw [fup_self]; exact hz
          · rw [fup_ne _ _ e, count_take hy, fup_ne _ _ e]
        rw [e]
        exact hI3)
      have hl3 := HI3.out.cn.look y
      rw [hz] at hl3
      have dz : decide ((z : Int) < 0) = false := decide_eq_false (by omega)
      have e1 : (z : Int) + 1 - 1 = (z : Int) := by omega
      clear hl hI3 HI hz hy hg hz2 hle hcy
      go_wp2
      exact ⟨⟨j + 1, by omega, by go_num, HI3⟩, by simp [intOf]; omega⟩
    · as_aux_lemma =>
      have di : decide ((j : Int) < (n : Int)) = false := decide_eq_false (by omega)
      go_wp2
      go_ret
      exact ⟨rfl, HI.out.bel⟩
end Go.Proofs.Qxb6500888a
