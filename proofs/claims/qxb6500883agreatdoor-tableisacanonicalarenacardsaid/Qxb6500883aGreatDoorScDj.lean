/- shortestCycle: no panic, an end, and a row of nodes. -/
import Derived.Test.Qxb6500883aGreatDoorScDi
import Derived.Test.Qxb6500883aGreatDoorFile
import Derived.Test.Qxb6500883aGreatDoorRowL
import Derived.Test.Qxb6500883aGreatDoorTree
namespace Go.Proofs.Qxb6500883aGreatDoor
open Go.RowKit
set_option linter.unusedSimpArgs false
set_option linter.unusedVariables false
/-- Back to v in d steps. -/
inductive Chn (f : Nat → Option Nat) (v : Nat) : Nat → Nat → Prop
  | base : Chn f v v 0
  | step {u x d : Nat} : f u = some x → Chn f v x d → Chn f v u (d + 1)
theorem Chn.add {f : Nat → Option Nat} {v k y : Nat} (hk : f k = none) {u d : Nat} (h : Chn f v u d) : Chn (fup f k (some y)) v u d := by
  induction h with
  | base => exact .base
  | @step u x d h1 _ ih => exact .step (by rw [fup_ne _ _ (fun e => by rw [e, hk] at h1; cases h1)]; exact h1) ih
/-- The search's plain state. -/
structure BI (n v : Nat) (f : Nat → Option Nat) (ks qs : List Nat) : Prop where
  vn : v < n
  key : ∀ u, (f u).isSome = true ↔ u ∈ ks
  nd : ks.Nodup
  kr : ∀ u ∈ ks, u < n
  fv : f v = none
  val : ∀ u x, f u = some x → x < n
  qr : ∀ u ∈ qs, u < n ∧ ∃ d, d ≤ ks.length ∧ Chn f v u d
  ql : qs.length ≤ ks.length + 1
theorem BI.start {n v : Nat} (hv : v < n) : BI n v (fun _ => none) [] [v] := ⟨hv, fun u => by simp, by simp, (fun u h => by cases h), rfl, (fun u x h => by cases h), (fun u h => by simp at h; subst h; exact ⟨hv, 0, Nat.le_refl _, .base⟩), Nat.le_refl _⟩
theorem BI.pop {n v u : Nat} {f : Nat → Option Nat} {ks qs : List Nat} (h : BI n v f ks (u :: qs)) : BI n v f ks qs := ⟨h.vn, h.key, h.nd, h.kr, h.fv, h.val, fun x hx => h.qr x (List.mem_cons_of_mem _ hx), by have := h.ql; simp only [List.length_cons] at this; omega⟩
theorem BI.len {n v : Nat} {f : Nat → Option Nat} {ks qs : List Nat} (h : BI n v f ks qs) : ks.length ≤ n := nodup_le n ks h.nd h.kr
theorem BI.add {n v u x : Nat} {f : Nat → Option Nat} {ks qs : List Nat} (h : BI n v f ks qs) (hu : u < n) (hc : ∃ d, d ≤ ks.length ∧ Chn f v u d) (hx : x < n) (hxv : x ≠ v) (h0 : f x = none) : BI n v (fup f x (some u)) (ks ++ [x]) (qs ++ [x]) ∧ (∃ d, d ≤ (ks ++ [x]).length ∧ Chn (fup f x (some u)) v u d) ∧ ks.length < n := by
  have hnk : x ∉ ks := fun hm => by have := (h.key x).2 hm; rw [h0] at this; cases this
  have hlen : (ks ++ [x]).length = ks.length + 1 := by simp
  obtain ⟨d, hd, hcd⟩ := hc
  have hnd : (ks ++ [x]).Nodup := by
    rw [List.nodup_append]
    exact ⟨h.nd, by simp, fun a ha b hb e => by simp at hb; subst hb; subst e; exact hnk ha⟩
  have hkr : ∀ y ∈ ks ++ [x], y < n := fun y hy => by
    rcases List.mem_append.1 hy with h1 | h1
    · exact h.kr y h1
    · simp at h1; subst h1; exact hx
  refine ⟨⟨h.vn, fun y => ?_, hnd, hkr, by rw [fup_ne _ _ (fun e => hxv e.symm)]; exact h.fv, fun y z hy => ?_, fun y hy => ?_, by have := h.ql; simp only [List.length_append, List.length_singleton]; omega⟩, ⟨d, by rw [hlen]; omega, hcd.add h0⟩, ?_⟩
  · by_cases e : y = x
    · subst e; rw [fup_self]; simp
    · rw [fup_ne _ _ e, h.key, List.mem_append]
      simp [e]
  · by_cases e : y = x
    · subst e; rw [fup_self] at hy; cases hy; exact hu
    · rw [fup_ne _ _ e] at hy; exact h.val y z hy
  · rcases List.mem_append.1 hy with h1 | h1
    · obtain ⟨h2, d2, h3, h4⟩ := h.qr y h1
      exact ⟨h2, d2, by rw [hlen]; omega, h4.add h0⟩
    · simp at h1; subst h1
      exact ⟨hx, d + 1, by rw [hlen]; omega, .step (fup_self _ _ _) (hcd.add h0)⟩
  · have := nodup_le n (ks ++ [x]) hnd hkr
    omega
/-- The map's contents. -/
def fI (f : Nat → Option Nat) (s : Int) : Option Value := if 0 ≤ s then (f s.toNat).map (fun x => Value.int .i32 (x : Int)) else none
theorem fI_get (f : Nat → Option Nat) (u : Nat) : fI f (u : Int) = (f u).map (fun x => Value.int .i32 (x : Int)) := by unfold fI; rw [if_pos (by omega), Int.toNat_natCast]
theorem fI_put (f : Nat → Option Nat) (k y : Nat) : gup (fI f) (k : Int) (some (.int .i32 (y : Int))) = fI (fup f k (some y)) := by
  funext s
  unfold gup fI
  by_cases e : s = (k : Int)
  · subst e
    rw [if_pos rfl, if_pos (by omega), Int.toNat_natCast, fup_self]
    rfl
  · rw [if_neg e]
    by_cases h : 0 ≤ s
    · rw [if_pos h, if_pos h, fup_ne _ _ (by omega)]
    · rw [if_neg h, if_neg h]
def lenS : Value → Nat
  | .slice _ n _ => n
  | _ => 0
/-- A slice without its first element. -/
theorem Fl.cutFirst {w : World} {a : Option Addr} {n c : Nat} {x : Value} {xs : List Value} (h : Fl w 21 a (n + 1) c (x :: xs)) : ∃ a', (∀ w' : World, (Instr.sliceAt 91 (.slice a (n + 1) c) (some (.int .i64 1)) none none).run Tryz.prog w' = .ok (.slice a' n (c - 1)) w') ∧ Fl w 21 a' n (c - 1) xs ∧ blkO a' = blkO a := by
  have h1 := h.le
  have h2 := h.mx
  have h3 := h.len
  rcases h.out with ⟨e1, e2⟩ | ⟨g, off, cs, e1, e2, e3, e4⟩
  · omega
  · subst e1
    refine ⟨if c - 1 = 0 then some ⟨g, off, none⟩ else some ⟨g, off + 1, none⟩, fun w' => ?_, ⟨by simp at h3; omega, by omega, by omega, .inr ?_⟩, by split <;> rfl⟩
    · have b1 : ¬ (n + 1 < 1) := by omega
      have b2 : ((1 : Int) ≤ ((n + 1 : Nat) : Int)) := by omega
      have b3 : ¬ (c < n + 1) := by omega
      have b4 : (1 : Int) ≤ (n : Int) + 1 := by omega
      by_cases hc : c - 1 = 0
      · have hc1 : c = 1 := by omega
        simp [Instr.sliceAt, go_sem, Instr.sliceBounds, hc, b1, b2, b3, b4, h1, hc1]
      · have hc1 : ¬ (c = 1) := by omega
        simp [Instr.sliceAt, go_sem, Instr.sliceBounds, hc, b1, b2, b3, b4, h1, hc1]
    · by_cases hc : c - 1 = 0
      · rw [if_pos hc]
        refine ⟨g, off, cs, rfl, e2, by omega, fun i hi => by omega⟩
      · rw [if_neg hc]
        refine ⟨g, off + 1, cs, rfl, e2, by omega, fun i hi => ?_⟩
        have := e4 (i + 1) (by omega)
        rw [show off + 1 + i = off + (i + 1) by omega, this]
        simp
/-- The search in memory: its map and its queue, made since w. -/
def SS (w : World) (n v mF : Nat) (ax : Option Addr) (nx qx : Nat) (wr : World) (f : Nat → Option Nat) (ks qs : List Nat) : Prop :=
  BI n v f ks qs ∧ MG (fun s : Int => Value.int .i32 s) wr mF (fI f) ∧ w.heap.size ≤ mF ∧ Fl wr 21 ax nx qx (qs.map (fun x : Nat => Value.int .i32 (x : Int))) ∧ (∀ k, blkO ax = some k → w.heap.size ≤ k) ∧ Below w.heap.size w wr
def SM (w : World) (n v mF : Nat) (q : Value) (wr : World) (M : Nat) : Prop := ∃ ax nx qx f ks qs, q = .slice ax nx qx ∧ SS w n v mF ax nx qx wr f ks qs ∧ 2 * (n - ks.length) + qs.length = M
section
variable {σ σ' σ'' : Rl} {w w' w1 w2 : World} {L : FL} {A : Gr} {va : Value} {T T' : TJ} {on on' : Nat → Bool} {vs vz vo vs' vz' vo' : Value}
theorem SS.below {n v mF nx qx : Nat} {ax : Option Addr} {f : Nat → Option Nat} {ks qs : List Nat} (h : SS w n v mF ax nx qx w1 f ks qs) (hb : Below w1.heap.size w1 w2) : SS w n v mF ax nx qx w2 f ks qs := by
  obtain ⟨h1, h2, h3, h4, h5, h6⟩ := h
  exact ⟨h1, h2.below hb, h3, h4.below hb, h5, h6.trans (hb.mono h6.size)⟩
set_option maxRecDepth 100000 in
set_option maxHeartbeats 8000000 in
theorem shortestW (h : FM σ w L A va T on vs vz vo) {v : Nat} (hv : v < A.length) (hA : GrOk A) (hn : A.length ≤ 65536) (hfl : A.flatten.length ≤ 200000) :
    Calls Tryz.prog 91 #[.pointer (some ⟨L.sB, 0, none⟩), .int .i32 (v : Int)] w fun e w' => ∃ ax m q, e = .returned (.slice ax m q) ∧ Hid (Below w.heap.size w w' ∧ ∃ xs, OwR rtJ w.heap.size w' (.slice ax m q) xs ∧ (∀ x ∈ xs, x < A.length) ∧ xs.length ≤ 65536) := by
  have HM := hid h
  have HA := hid hA
  obtain ⟨n, hn'⟩ : ∃ n, A.length = n := ⟨_, rfl⟩
  have Hn := hid hn'
  rw [hn'] at hv hn ⊢
  obtain ⟨mF, hmF⟩ : ∃ m, w.heap.size = m := ⟨_, rfl⟩
  have hmk : (Instr.makeMap 212 none).run Tryz.prog w = .ok (.map (some mF)) (w.alloc (.map #[] 0)) := by
    rw [← hmF]
    simp [Instr.makeMap, run_underlying Tryz.underlying212, go_sem]
  obtain ⟨wa, hwa⟩ : ∃ x, w.alloc (.map #[] 0) = x := ⟨_, rfl⟩
  rw [hwa] at hmk
  have hsa : wa.heap.size = mF + 1 := by rw [← hwa, ← hmF]; simp
  obtain ⟨qq, hqq⟩ : ∃ q, mF + 1 = q := ⟨_, rfl⟩
  rw [hqq] at hsa
  obtain ⟨wb, hwb⟩ : ∃ x, wa.alloc (.cells #[.int .i32 (v : Int)] 21) = x := ⟨_, rfl⟩
  have HmF := hid hmF
  have HS0 : Hid (∃ M, SM w n v mF (.slice (some ⟨qq, 0, none⟩) 1 1) wb M) := hid (by
    have hb1 : Below w.heap.size w wa := by rw [← hwa]; exact nbel w _
    have hb2 : Below wa.heap.size wa wb := by rw [← hwb]; exact nbel wa _
    have kb : Blk wb qq 21 [.int .i32 (v : Int)] := by
      have := Blk.new wa [.int .i32 (v : Int)] 21
      rw [hsa] at this
      rw [← hwb]
      exact this
    have km : MG (fun s : Int => Value.int .i32 s) wa mF (fun _ => none) := by rw [← hwa]; exact MG.new _ w hmF
    refine ⟨_, _, _, _, fun _ => none, [], [v], rfl, ⟨BI.start hv, ?_, by omega, ?_, ?_, hb1.trans (hb2.mono hb1.size)⟩, rfl⟩
    · have e : fI (fun _ => none) = (fun _ => none) := by funext s; unfold fI; split <;> rfl
      rw [e]
      exact km.below hb2
    · exact Fl.made kb rfl (by unfold maxLen; omega)
    · intro k hk
      cases hk
      show w.heap.size ≤ qq
      omega)
  have c0 := h.cells.1
  clear h hA hn' hmF
  go_enter Tryz.func91, Tryz.ntmps91
  go_upto_region 3 with fail
  (try simp only [hsa, hwb])
  clear hmk hwa hsa hqq hwb c0
  go_loopw [6] (fun q wr => ∃ ax nx qx, q = .slice ax nx qx ∧ Hid (∃ M, SM w n v mF (.slice ax nx qx) wr M)) (fun q wr => leastN (fun M => SM w n v mF q wr M))
  case atStart => exact ⟨_, _, _, rfl, HS0⟩
  case round =>
  clear HS0
  obtain ⟨ax, nx, qx, rfl, HV⟩ := hrel
  have Hsp := hid (leastN_spec HV.out)
  obtain ⟨Mx, hMx⟩ : ∃ M, leastN (fun M => SM w n v mF (.slice ax nx qx) wr M) = M := ⟨_, rfl⟩
  rw [hMx] at Hsp
  have HMx := hid hMx
  clear hMx HV
  obtain ⟨ax', nx', qx', f, ks, qs, hsh, hS, hM⟩ := Hsp.out
  injection hsh with e1 e2 e3
  subst e1 e2 e3
  have HS := hid hS
  have HM2 := hid hM
  clear hS hM Hsp
  cases qs with
  | nil =>
    as_aux_lemma =>
    have h0 : nx = 0 := by have := HS.out.2.2.2.1.len; simp at this; omega
    have d1 : decide ((nx : Int) > 0) = false := decide_eq_false (by omega)
    have d1n : decide (0 < nx) = false := decide_eq_false (by omega)
    have d1i : decide ((0 : Int) < (nx : Int)) = false := decide_eq_false (by omega)
    have HF : Hid (Below w.heap.size w wr ∧ ∃ xs, OwR rtJ w.heap.size wr (.slice none 0 0) xs ∧ (∀ x ∈ xs, x < n) ∧ xs.length ≤ 65536) := hid ⟨HS.out.2.2.2.2.2, [], OwR.nil _ _ _, (fun x hx => by cases hx), Nat.zero_le _⟩
    clear h0
    go_wp2
    go_ret
    exact ⟨_, _, _, rfl, HF⟩
  | cons u qs =>
  obtain ⟨m, hm⟩ : ∃ m, nx = m + 1 := ⟨qs.length, by have := HS.out.2.2.2.1.len; simp at this; omega⟩
  subst hm
  have d1 : decide (((m + 1 : Nat) : Int) > 0) = true := decide_eq_true (by omega)
  have d1n : decide (0 < m + 1) = true := decide_eq_true (by omega)
  have hFl := HS.out.2.2.2.1
  rw [List.map_cons] at hFl
  obtain ⟨g, off, hax, hcu⟩ := hFl.cell (i := 0) (by omega)
  obtain ⟨a2, hcut, hFl2, hbk⟩ := hFl.cutFirst
  have hcu : wr.cell? ⟨g, off, none⟩ = some (.int .i32 (u : Int)) := by have := hcu; simpa using this
  have hq1 := HS.out.1.qr u (by simp)
  have hun := hq1.1
  have HS2 : Hid (SS w n v mF a2 m (qx - 1) wr f ks qs) := hid ⟨HS.out.1.pop, HS.out.2.1, HS.out.2.2.1, hFl2, fun k hk => HS.out.2.2.2.2.1 k (by rw [← hbk]; exact hk), HS.out.2.2.2.2.2⟩
  have HCh : Hid (∃ d, d ≤ ks.length ∧ Chn f v u d) := hid hq1.2
  have HMp : Hid (2 * (n - ks.length) + qs.length < Mx) := hid (by have := HM2.out; simp only [List.length_cons] at this; omega)
  subst hax
  have c0 : wr.cell? ⟨L.sB, 0, none⟩ = some (.pointer (some ⟨L.gB, 0, none⟩)) := (HM.out.below HS2.out.2.2.2.2.2).cells.1
  have HOu := hid (outW (HM.out.below HS2.out.2.2.2.2.2) (v := u) (by rw [Hn.out]; exact hun) (by rw [Hn.out]; exact hn) hfl)
  have i1 : (0 : Int) < ((m + 1 : Nat) : Int) := by omega
  clear hFl hFl2 hq1 hbk HS HM2
  go_upto_region 6 with fail
  clear hcu hcut
  go_wp2_with fail
  refine HOu.out.mono ?_
  rintro e wo ⟨ao, qo, rfl, hdo, HOS⟩
  have HS3 := hid (HS2.out.below (hdo.below _))
  clear hdo HOu HS2 c0
  obtain ⟨dg, hdg⟩ : ∃ n, (suc A u).length = n := ⟨_, rfl⟩
  rw [hdg]
  have Hdg := hid hdg
  have hdb : dg ≤ 200000 := by
    have := stA_le (A := A) (v := u) (by rw [Hn.out]; exact hun)
    omega
  clear hdg
  go_upto_region 7 with fail
  go_loopw [33, 6, 7] (fun t q s7 wr => ∃ (k : Nat) (ax : Option Addr) (nx qx : Nat), t = .int .i64 (k : Int) ∧ q = .slice ax nx qx ∧ s7 = .int .i32 (u : Int) ∧ k ≤ dg ∧ Hid (∃ f ks qs, SS w n v mF ax nx qx wr f ks qs ∧ (∃ d, d ≤ ks.length ∧ Chn f v u d) ∧ 2 * (n - ks.length) + qs.length < Mx)) (fun t _ _ _ => dg - (intOf t).toNat)
  case atStart => exact ⟨0, _, _, _, rfl, rfl, rfl, Nat.zero_le _, hid ⟨f, ks, qs, HS3.out, HCh.out, HMp.out⟩⟩
  case round =>
  clear HS3 HCh HMp
  obtain ⟨k, ay, ny, qy, rfl, rfl, rfl, hk, HK⟩ := hrel
  by_cases hkd : k < dg
  rotate_left
  · as_aux_lemma =>
    have d2 : decide ((k : Int) < (dg : Int)) = false := decide_eq_false (by omega)
    have HE : Hid (∃ M, SM w n v mF (.slice ay ny qy) wr M ∧ M < Mx) := hid (by
      obtain ⟨f, ks, qs, h1, _, h3⟩ := HK.out
      exact ⟨_, ⟨_, _, _, f, ks, qs, rfl, h1, rfl⟩, h3⟩)
    obtain ⟨M2, hM2, hlt⟩ := HE.out
    have HM2 := hid hM2
    have Hlt := hid hlt
    clear hM2 hlt HE HK
    go_wp2
    exact ⟨⟨_, _, _, rfl, hid ⟨_, HM2.out⟩⟩, Nat.lt_of_lt_of_eq (Nat.lt_of_le_of_lt (leastN_le HM2.out) Hlt.out) HMx.out.symm⟩
  have d2 : decide ((k : Int) < (dg : Int)) = true := decide_eq_true (by omega)
  have i5 : (k : Int) < (dg : Int) := by omega
  obtain ⟨f1, ks1, qs1, hS1, hC1, hL1⟩ := HK.out
  have HS1 := hid hS1
  have HC1 := hid hC1
  have HL1 := hid hL1
  obtain ⟨y, hy⟩ : ∃ y, (suc A u)[k]? = some y := ⟨_, List.getElem?_eq_getElem (by rw [Hdg.out]; exact hkd)⟩
  have hyn : y < n := by rw [← Hn.out]; exact HA.out u y (List.mem_of_getElem? hy)
  obtain ⟨g3, q3, hva3, hax3⟩ := HOS.out k y hy
  obtain ⟨g4, q4, hva4, hcy, _⟩ := (HM.out.below hS1.2.2.2.2.2).edge (by rw [Hn.out]; exact hun) hy
  rw [hva3] at hva4
  injection hva4 with e1 e2 e3
  injection e1 with e1
  injection e1 with e1
  subst e1
  subst hax3
  clear e2 e3 hy hS1 hC1 hL1 HK
  obtain ⟨so, hso⟩ : ∃ k, stA A u = k := ⟨_, rfl⟩
  rw [hso] at hcy
  rw [hso]
  clear hso
  by_cases hyv : y = v
  · have d3 : ((y : Int) == (v : Int)) = true := by simp; omega
    clear hyv
    go_upto_region 11 with fail
    clear hcy
    obtain ⟨wB, hwB⟩ : ∃ x : World, x = wr := ⟨_, rfl⟩
    subst hwB
    have HW0 : Hid (∃ τ xs d, RowX rtJ wB τ 41 (.slice none 0 0) xs ∧ Fr (fun c => c == 41) (fun _ => 0) wB τ wB ∧ Chn f1 v u d ∧ xs.length + d ≤ n ∧ ∀ x ∈ xs, x < n) := hid (by
      obtain ⟨d, h1, h2⟩ := HC1.out
      have h3 := HS1.out.1.len
      exact ⟨_, [], d, RowX.nil _ _ (fun _ => 0) _, Fr.refl _ _ _, h2, by simp; omega, (fun x hx => by cases hx)⟩)
    go_loopw [10, 7] (fun t q wz => ∃ (ax : Option Addr) (nx qx uu : Nat), t = .slice ax nx qx ∧ q = .int .i32 (uu : Int) ∧ uu < n ∧ nx ≤ n ∧ Hid (∃ τ xs d, RowX rtJ wz τ 41 (.slice ax nx qx) xs ∧ Fr (fun c => c == 41) (fun _ => 0) wB τ wz ∧ Chn f1 v uu d ∧ xs.length + d ≤ n ∧ ∀ x ∈ xs, x < n)) (fun t _ _ => n - lenS t)
    case atStart => exact ⟨_, _, _, u, rfl, rfl, hun, Nat.zero_le _, HW0⟩
    case round =>
    clear HW0
    obtain ⟨az, nz, qz, uu, rfl, rfl, huu, hnz, HW⟩ := hrel
    obtain ⟨τ, xs, d, hR, hFr, hCh, hle, hxs⟩ := HW.out
    have HR := hid hR
    have HFr := hid hFr
    have Hle := hid hle
    have Hxs := hid hxs
    obtain ⟨_, _, hshz⟩ := hR.shape
    injection hshz with e1 e2 e3
    have He2 := hid e2
    clear e1 e2 e3
    by_cases huv : uu = v
    rotate_left
    · as_aux_lemma =>
      have d4 : ((uu : Int) != (v : Int)) = true := by simp; omega
      cases hCh with
      | base => exact absurd rfl huv
      | @step _ x d hfx hch2 =>
      have hxn := HS1.out.1.val uu x hfx
      have hbw : Below wB.heap.size wB wr := hFr.toBelow (Nat.le_refl _) (fun _ _ => rfl) rfl
      have Hch2 := hid hch2
      have hmz := HS1.out.2.1.below hbw
      obtain ⟨qn, hqn⟩ : ∃ q, wr.heap.size = q := ⟨_, rfl⟩
      obtain ⟨wf, hwf⟩ : ∃ y, wr.alloc (.cells #[.int .i32 (uu : Int)] 21) = y := ⟨_, rfl⟩
      have HN := hid (one_new wr uu hqn)
      rw [hwf] at HN
      have hnzn : nz < n := by have := He2.out; omega
      have Hmz := hid hmz
      have Hfx := hid hfx
      clear hR hFr hle hxs hmz hbw hch2 huv hfx
      go_wp2_with (at_builtin; refine stopHere ?_)
      intro _
      (try simp only [hqn, hwf])
      clear hqn hwf
      have hrc : RowX rtJ wf τ 41 (.slice az nz qz) xs := HR.out.fr (X := fun _ => false) (Fr.below HN.out.2) rfl
      refine wpList_app_x okJ rfl _ _ hrc rfl [uu] rfl (some ⟨qn, 0, none⟩) 1 1 rfl rfl (fun h => by cases h) HN.out.1 (by rw [← He2.out]; show (nz + 1) * 4 ≤ _; omega) ?_
      intro v8 w8 τ8 hr8 hf8 _ _
      obtain ⟨a8, q8, h8⟩ := hr8.out.shape
      rw [List.length_append, List.length_singleton, ← He2.out] at h8
      subst h8
      have HFr8 : Hid (Fr (fun c => c == 41) (fun _ => 0) wB τ8 w8) := hid ((HFr.out.trans (Fr.below HN.out.2)).trans hf8.out)
      have hlk := (HS1.out.2.1.below (HFr8.out.toBelow (Nat.le_refl _) (fun _ _ => rfl) rfl)).look (P := Tryz.prog) Tryz.underlying212 (keyInt Tryz.underlying21) (uu : Int) (z := .int .i32 0) (fun w => by kernel_rfl)
      rw [fI_get, Hfx.out] at hlk
      have hlk : (Instr.lookup 212 (.map (some mF)) (.int .i32 (uu : Int)) false).run Tryz.prog w8 = .ok (.int .i32 (x : Int)) w8 := hlk
      have HE : Hid (∃ τ xs d, RowX rtJ w8 τ 41 (.slice a8 (nz + 1) q8) xs ∧ Fr (fun c => c == 41) (fun _ => 0) wB τ w8 ∧ Chn f1 v x d ∧ xs.length + d ≤ n ∧ ∀ x ∈ xs, x < n) := hid ⟨τ8, xs ++ [uu], d, hr8.out, HFr8.out, Hch2.out, by have := Hle.out; simp only [List.length_append, List.length_singleton]; omega, fun x hx => by
        rcases List.mem_append.1 hx with h | h
        · exact Hxs.out x h
        · simp at h; subst h; exact huu⟩
      clear hr8 hf8 hrc HN HFr8
      go_wp2
      exact ⟨⟨_, _, _, x, rfl, rfl, hxn, by omega, HE⟩, by simp only [lenS]; omega⟩
    have d4 : ((uu : Int) != (v : Int)) = false := by simp; omega
    clear huv hCh HW
    have HW1 : Hid (∃ τ xs, RowX rtJ wr τ 41 (.slice az nz qz) xs ∧ Fr (fun c => c == 41) (fun _ => 0) wB τ wr ∧ ∀ x ∈ xs, x < n) := hid ⟨τ, xs, hR, hFr, hxs⟩
    have HDn := hid (And.intro hnz hn)
    clear hR hFr hle hxs HR HFr Hle Hxs He2 xs d τ
    go_upto_region 15 with fail
    obtain ⟨wz, hwz⟩ : ∃ x : World, x = wr := ⟨_, rfl⟩
    subst hwz
    go_loopw [11, 12] (fun t q wz => ∃ i j : Int, t = .int .i64 i ∧ q = .int .i64 j ∧ 0 ≤ i ∧ i ≤ nz ∧ j < nz ∧ -1 ≤ j ∧ Hid (∃ τ xs, RowX rtJ wz τ 41 (.slice az nz qz) xs ∧ Fr (fun c => c == 41) (fun _ => 0) wB τ wz ∧ ∀ x ∈ xs, x < n)) (fun t _ _ => nz - (intOf t).toNat)
    case atStart => exact ⟨0, (nz : Int) - 1, rfl, by go_num, Int.le_refl _, by omega, by omega, by omega, HW1⟩
    case round =>
    clear HW1
    obtain ⟨i, j, rfl, rfl, hi0, hin, hjn, hj0, HW⟩ := hrel
    by_cases hij : i < j
    rotate_left
    · have d5 : decide (i < j) = false := decide_eq_false hij
      have HF : Hid (Below w.heap.size w wr ∧ ∃ xs, OwR rtJ w.heap.size wr (.slice az nz qz) xs ∧ (∀ x ∈ xs, x < n) ∧ xs.length ≤ 65536) := hid (by
        obtain ⟨τ, xs, h1, h2, h3⟩ := HW.out
        have hb0 := HS1.out.2.2.2.2.2
        have hb : Below wB.heap.size wB wr := h2.toBelow (Nat.le_refl _) (fun _ _ => rfl) rfl
        refine ⟨hb0.trans (hb.mono hb0.size), xs, ?_, h3, ?_⟩
        · have hown := h1.own
          refine ⟨hown.1, ?_⟩
          rcases hown.2 with h4 | ⟨g5, cap, cur, e1, e2, e4⟩
          · exact .inl h4
          · refine .inr ⟨g5, cap, cur, e1, ?_, e4⟩
            rw [e1] at h1
            have hr := h1.role g5 rfl
            rcases Nat.lt_or_ge g5 wB.heap.size with h6 | h6
            · have := h2.old g5 h6
              rw [hr] at this
              cases this
            · have := hb0.size
              omega
        · obtain ⟨_, _, hh⟩ := h1.shape
          injection hh with _ e2 _
          have := HDn.out
          omega)
      clear HW hij
      go_wp2
      go_ret
      exact ⟨_, _, _, rfl, HF⟩
    · have d5 : decide (i < j) = true := decide_eq_true hij
      obtain ⟨τ, xs, h1, h2, h3⟩ := HW.out
      obtain ⟨ii, rfl⟩ : ∃ ii : Nat, i = (ii : Int) := ⟨i.toNat, by omega⟩
      obtain ⟨jj, rfl⟩ : ∃ jj : Nat, j = (jj : Int) := ⟨j.toNat, by omega⟩
      obtain ⟨_, _, hh⟩ := h1.shape
      injection hh with q1 e2 q2
      clear q1 q2
      have d5n : decide (ii < jj) = true := decide_eq_true (by omega)
      have d5p : ii < jj := by omega
      obtain ⟨x, hx⟩ : ∃ x, xs[ii]? = some x := ⟨_, List.getElem?_eq_getElem (by omega)⟩
      obtain ⟨zz, hz⟩ : ∃ zz, xs[jj]? = some zz := ⟨_, List.getElem?_eq_getElem (by omega)⟩
      obtain ⟨g5, q5, hv5, _, hc5⟩ := h1.get (by decide) (fun _ => rfl) hx
      injection hv5 with e3 e4 e5
      clear e4 e5
      subst e3
      obtain ⟨g6, q6, hv6, _, hc6⟩ := h1.get (by decide) (fun _ => rfl) hz
      injection hv6 with e6 e7 e8
      clear e7 e8
      injection e6 with e6
      injection e6 with e6
      subst e6
      have cx : wr.cell? ⟨g5, ii, none⟩ = some (.int .i32 (x : Int)) := by have := hc5 0 (by decide); simpa [rtJ] using this
      have cz : wr.cell? ⟨g5, jj, none⟩ = some (.int .i32 (zz : Int)) := by have := hc6 0 (by decide); simpa [rtJ] using this
      have HR := hid h1
      have HFr := hid h2
      have Hxs := hid h3
      have Hxx := hid (And.intro hx hz)
      have He2 := hid e2
      have hne : ii ≠ jj := by omega
      have fx : wr.frozen? ⟨g5, ii, none⟩ = false := by have := (h1.put (by decide) (fun _ => rfl) rfl (i := ii) (j := 0) (x' := zz) (u := .int .i32 (zz : Int)) hx (by decide) (by rfl)).2.2; simpa [rtJ] using this
      have fz : wr.frozen? ⟨g5, jj, none⟩ = false := by have := (h1.put (by decide) (fun _ => rfl) rfl (i := jj) (j := 0) (x' := x) (u := .int .i32 (x : Int)) hz (by decide) (by rfl)).2.2; simpa [rtJ] using this
      have i6 : (ii : Int) < (nz : Int) := by omega
      have i7 : (jj : Int) < (nz : Int) := by omega
      clear h1 h2 h3 hx hz hc5 hc6 e2 HW hij
      go_upto_region 17 with fail
      have HB : Hid (Below wr.heap.size wr wr.drew) := hid (Drew.below ⟨1, rfl⟩ _)
      have cx' : wr.drew.cell? ⟨g5, ii, none⟩ = some (.int .i32 (x : Int)) := cx
      have cz' : wr.drew.cell? ⟨g5, jj, none⟩ = some (.int .i32 (zz : Int)) := cz
      have fx' : wr.drew.frozen? ⟨g5, ii, none⟩ = false := fx
      have fz' : wr.drew.frozen? ⟨g5, jj, none⟩ = false := fz
      have hnei : (ii : Nat) ≠ jj := hne
      have hnej : (jj : Nat) ≠ ii := fun e => hne e.symm
      refine wp_region_tree (fun _ => True) 14 [0, 1, 2, 3, 4, 5, 6, 8, 9, 10] (.two 7 (.one 11 (.lit [12] (.one 13 .leaf))) 11 (.one 7 (.lit [12] (.one 13 .leaf)))) rfl (by kernel_rfl) (by kernel_rfl) (fun d _ _ _ _ h => by cases d <;> exact h) trivial ?_
      generalize wr.drew = wd at HB cx' cz' fx' fz' ⊢
      have HE : Hid (∃ τ xs, RowX rtJ ((wd.setCell ⟨g5, ii, none⟩ (.int .i32 (zz : Int))).setCell ⟨g5, jj, none⟩ (.int .i32 (x : Int))) τ 41 (.slice (some ⟨g5, 0, none⟩) nz qz) xs ∧ Fr (fun c => c == 41) (fun _ => 0) wB τ ((wd.setCell ⟨g5, ii, none⟩ (.int .i32 (zz : Int))).setCell ⟨g5, jj, none⟩ (.int .i32 (x : Int))) ∧ ∀ x ∈ xs, x < n) := hid (by
        have hr0 : RowX rtJ wd τ 41 (.slice (some ⟨g5, 0, none⟩) nz qz) xs := HR.out.fr (X := fun _ => false) (Fr.below HB.out) rfl
        obtain ⟨p1, p2, _⟩ := hr0.put (by decide) (fun _ => rfl) rfl (i := ii) (j := 0) (x' := zz) (u := .int .i32 (zz : Int)) Hxx.out.1 (by decide) (by rfl)
        have hz2 : (xs.set ii zz)[jj]? = some zz := by rw [List.getElem?_set_ne hne]; exact Hxx.out.2
        obtain ⟨p3, _, _⟩ := p1.put (by decide) (fun _ => rfl) rfl (i := jj) (j := 0) (x' := x) (u := .int .i32 (x : Int)) hz2 (by decide) (by rfl)
        have e1 : ii * rtJ.n + 0 = ii := by show ii * 1 + 0 = ii; omega
        have e2 : jj * rtJ.n + 0 = jj := by show jj * 1 + 0 = jj; omega
        rw [e1, e2] at p3
        refine ⟨τ, _, p3, ((HFr.out.trans (Fr.below HB.out)).trans (Fr.set _ (by show (τ g5 == 41) = true; rw [p2]; rfl))).trans (Fr.set _ (by show (τ g5 == 41) = true; rw [p2]; rfl)), fun y hy => ?_⟩
        have hxm := Hxs.out x (List.mem_of_getElem? Hxx.out.1)
        have hzm := Hxs.out zz (List.mem_of_getElem? Hxx.out.2)
        rcases List.mem_or_eq_of_mem_set hy with h | h
        · rcases List.mem_or_eq_of_mem_set h with h | h
          · exact Hxs.out y h
          · subst h; exact hzm
        · subst h; exact hxm)
      clear cx cz fx fz
      have hjj : (jj : Int) - 1 < (nz : Int) := by omega
      apply Exists.intro
      refine ⟨?_, ?_⟩
      · intro W hW
        simp only [List.take, opsAt, List.drop, List.cons_append, List.nil_append]
        repeat (go_big_quiet_step (fail))
        exact rfl
      simp only [wpTr, opsAt, List.take, List.drop, List.cons_append, List.nil_append]
      refine ⟨?_, ?_⟩
      all_goals (
        go_wp2_with fail
        refine ⟨trivial, ?_⟩
        go_wp2_with fail
        refine ⟨trivial, ?_⟩
        apply Exists.intro
        refine ⟨?_, ?_⟩
        · intros
          (try simp only [List.take, opsAt, List.drop, List.cons_append, List.nil_append])
          repeat (go_big_quiet_step (fail))
          exact rfl
        (try simp only [wpTr, opsAt, List.take, List.drop, List.cons_append, List.nil_append])
        go_wp2_with fail
        refine ⟨trivial, ?_⟩
        simp only [wpTr, QN]
        go_wp2
        exact ⟨⟨(ii : Int) + 1, (jj : Int) - 1, by go_num, by go_num, by omega, by omega, by omega, by omega, HE⟩, by simp [intOf]; omega⟩)
  have d3 : ((y : Int) == (v : Int)) = false := by simp; omega
  have HMw := hid (HM.out.below HS1.out.2.2.2.2.2)
  have c5 : wr.cell? ⟨L.sB, 5, none⟩ = some (.slice (some ⟨L.gC, 0, none⟩) n n) := by rw [← Hn.out]; exact HMw.out.b.cell 5
  obtain ⟨cy, hcy'⟩ : ∃ k, T.cp y = k := ⟨_, rfl⟩
  obtain ⟨cv, hcv'⟩ : ∃ k, T.cp v = k := ⟨_, rfl⟩
  have cyc : wr.cell? ⟨L.gC, y, none⟩ = some (.int .i32 (cy : Int)) := by rw [← hcy']; exact HMw.out.c.get (by rw [Hn.out]; exact hyn)
  have cvc : wr.cell? ⟨L.gC, v, none⟩ = some (.int .i32 (cv : Int)) := by rw [← hcv']; exact HMw.out.c.get (by rw [Hn.out]; exact hv)
  have i6 : (y : Int) < (n : Int) := by omega
  have i7 : (v : Int) < (n : Int) := by omega
  have Hyv := hid hyv
  clear hcy' hcv' hyv HMw
  by_cases hcc : cy = cv
  rotate_left
  · as_aux_lemma =>
    have d4 : ((cy : Int) != (cv : Int)) = true := by simp; omega
    clear hcc
    go_upto_region 19 with fail
    go_quiet (fail)
    have HE : Hid (∃ f ks qs, SS w n v mF ay ny qy (wr.drewN nq) f ks qs ∧ (∃ d, d ≤ ks.length ∧ Chn f v u d) ∧ 2 * (n - ks.length) + qs.length < Mx) := hid ⟨f1, ks1, qs1, HS1.out.below (((Drew.refl wr).next nq).below _), HC1.out, HL1.out⟩
    generalize wr.drewN nq = wd at HE ⊢
    clear c5 cyc cvc hcy
    go_wp2
    exact ⟨⟨k + 1, _, _, _, by go_num, rfl, rfl, by omega, HE⟩, by simp [intOf]; omega⟩
  have d4 : ((cy : Int) != (cv : Int)) = false := by simp; omega
  clear hcc
  go_upto_region 19 with fail
  go_quiet (fail)
  have HS4 := hid (HS1.out.below (((Drew.refl wr).next nq).below _))
  generalize wr.drewN nq = wd at HS4 ⊢
  clear c5 cyc cvc hcy HS1
  have hlk := HS4.out.2.1.lookT (P := Tryz.prog) Tryz.underlying212 (keyInt Tryz.underlying21) (y : Int) (z := .int .i32 0) (fun w => by kernel_rfl)
  rw [fI_get] at hlk
  cases hfy : f1 y with
  | some x =>
    as_aux_lemma =>
    rw [hfy] at hlk
    have hlk : (Instr.lookup 212 (.map (some mF)) (.int .i32 (y : Int)) true).run Tryz.prog wd = .ok (.tuple #[.int .i32 (x : Int), .bool true]) wd := hlk
    have HE : Hid (∃ f ks qs, SS w n v mF ay ny qy wd f ks qs ∧ (∃ d, d ≤ ks.length ∧ Chn f v u d) ∧ 2 * (n - ks.length) + qs.length < Mx) := hid ⟨f1, ks1, qs1, HS4.out, HC1.out, HL1.out⟩
    clear hfy
    go_wp2
    exact ⟨⟨k + 1, _, _, _, by go_num, rfl, rfl, by omega, HE⟩, by simp [intOf]; omega⟩
  | none =>
    as_aux_lemma =>
    rw [hfy] at hlk
    have hlk : (Instr.lookup 212 (.map (some mF)) (.int .i32 (y : Int)) true).run Tryz.prog wd = .ok (.tuple #[.int .i32 0, .bool false]) wd := hlk
    obtain ⟨hB2, hC2, hlt2⟩ := HS4.out.1.add hun HC1.out hyn Hyv.out hfy
    have HB2 := hid hB2
    have HC2 := hid hC2
    have Hlt2 := hid hlt2
    obtain ⟨w5, hput, hg5, hu5⟩ := HS4.out.2.1.put (P := Tryz.prog) Tryz.underlying212 (keyInt Tryz.underlying21) (y : Int) (.int .i32 (u : Int))
    rw [fI_put] at hg5
    have HG5 := hid (And.intro hg5 hu5)
    have hny : ny = qs1.length := by have := HS4.out.2.2.2.1.len; simp at this; omega
    have hqlen : qs1.length ≤ 65537 := by
      have h1 := HS4.out.1.ql
      have h2 := HS4.out.1.len
      omega
    have HF5 : Hid (Fl w5 21 ay ny qy (qs1.map (fun x : Nat => Value.int .i32 (x : Int)))) := hid (HS4.out.2.2.2.1.of (fun kk cs hkk hb => hb.upd hu5 (fun e => (HS4.out.2.1.ne hb) e.symm)))
    have HBw5 : Hid (Below w.heap.size w w5) := hid (HS4.out.2.2.2.2.2.trans (hu5.below HS4.out.2.2.1 HS4.out.2.2.2.2.2.size))
    obtain ⟨qn, hqn⟩ : ∃ q, w5.heap.size = q := ⟨_, rfl⟩
    obtain ⟨wf, hwf⟩ : ∃ x, w5.alloc (.cells #[.int .i32 (y : Int)] 21) = x := ⟨_, rfl⟩
    have hbf : Below w5.heap.size w5 wf := by rw [← hwf]; exact nbel w5 _
    have hcq : wf.cell? ⟨qn, 0, none⟩ = some (.int .i32 (y : Int)) := by
      have := Blk.new w5 [.int .i32 (y : Int)] 21
      rw [hqn] at this
      rw [← hwf]
      exact this.cell 0
    have Hbf := hid hbf
    have Hcq := hid hcq
    obtain ⟨i0, z0, hi, hz0, hz1, hz2, hz3⟩ := okJ.info
    have HIn := hid (And.intro hi (And.intro hz0 (And.intro hz1 (And.intro hz2 hz3))))
    have Hny := hid hny
    clear hbf hcq hi hz0 hz1 hz2 hz3 hg5 hu5 hB2 hC2 hlt2 hfy hny
    go_wp2_with (at_builtin; refine stopHere ?_)
    intro _
    (try simp only [hqn, hwf])
    clear hqn hwf hput hlk
    have hFf := HF5.out.below Hbf.out
    refine wpList_append_file rfl (.tmp 101) (.tmp 103) 91 rfl 21 i0 z0 4 Tryz.underlying91 HIn.out.1 HIn.out.2.1 HIn.out.2.2.1 HIn.out.2.2.2.1 HIn.out.2.2.2.2 ay ny qy _ rfl hFf qn 1 (.int .i32 (y : Int)) rfl Hcq.out rfl (by rw [Hny.out]; omega) (by decide) ?_
    intro a8 c8 w8 h8 hu8 hb8 _
    have HE : Hid (∃ f ks qs, SS w n v mF a8 (ny + 1) c8 w8 f ks qs ∧ (∃ d, d ≤ ks.length ∧ Chn f v u d) ∧ 2 * (n - ks.length) + qs.length < Mx) := hid (by
      have hbl := HBw5.out.trans (Hbf.out.mono HBw5.out.size)
      have hmF : mF < wf.heap.size := (HG5.out.1.below Hbf.out).lt
      have hmne : ∀ kk, blkO ay = some kk → mF ≠ kk := fun kk hkk e => by
        subst e
        obtain ⟨cs, hcs⟩ := hFf.ty mF hkk
        exact (HG5.out.1.below Hbf.out).ne hcs rfl
      refine ⟨_, _, _, ⟨HB2.out, ?_, HS4.out.2.2.1, ?_, fun kk hkk => ?_, ?_⟩, HC2.out, ?_⟩
      · exact (HG5.out.1.below Hbf.out).of (hu8.block mF hmF (fun e => hmne mF e rfl))
      · rw [List.map_append]
        exact h8
      · rcases hb8 with h | h
        · exact HS4.out.2.2.2.2.1 kk (by rw [← h]; exact hkk)
        · rw [h] at hkk
          cases hkk
          exact hbl.size
      · exact hbl.trans (hu8.below hbl.size (fun kk hkk => HS4.out.2.2.2.2.1 kk hkk))
      · have h1 := HL1.out
        have h2 := Hlt2.out
        simp only [List.length_append, List.length_singleton]
        omega)
    clear h8 hu8 hb8 hFf
    go_wp2
    exact ⟨⟨k + 1, _, _, _, by go_num, rfl, rfl, by omega, HE⟩, by simp [intOf]; omega⟩
end
end Go.Proofs.Qxb6500883aGreatDoor
