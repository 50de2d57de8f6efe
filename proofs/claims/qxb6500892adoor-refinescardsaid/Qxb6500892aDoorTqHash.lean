/- bucketOf, find, hashIn, hashOut. -/
import Derived.Test.Qxb6500892aDoorTqLst
namespace Go.Proofs.Qxb6500892aDoor
open Go.RowKit
set_option linter.unusedSimpArgs false
set_option linter.unusedVariables false

/-- The bucket of a key. -/
def hsh (s : ES) (k : Nat) : Nat := (k * 11400714819323198485 % 18446744073709551616) / 2 ^ s.shift
structure BW (s : ES) : Prop where
  pw : s.m * 2 ^ s.shift = 18446744073709551616
  sh : s.shift ≤ 64
  mb : s.m ≤ 131072
theorem BW.lt {s : ES} (h : BW s) (k : Nat) : hsh s k < s.m := by
  unfold hsh
  rw [Nat.div_lt_iff_lt_mul (Nat.two_pow_pos _), h.pw]
  exact Nat.mod_lt _ (by omega)
set_option maxRecDepth 100000 in
theorem bucketOf_walk (e gn gb : Nat) (s : ES) (k : Nat) (w : World) (h : EM e gn gb s w) (hb : BW s) :
    Calls Tryd.prog 60 #[.pointer (some ⟨e, 0, none⟩), .int .u64 (k : Int)] w fun x w' => x = .returned (.pointer (some ⟨gb, hsh s k, none⟩)) ∧ ∃ n, w' = w.drewN n := by
  obtain ⟨p, hp⟩ : ∃ p, k * 11400714819323198485 % 18446744073709551616 = p := ⟨_, rfl⟩
  have hm : IntKind.u64.wrap ((k : Int) * 11400714819323198485) = (p : Int) := by rw [IntKind.wrap_u64]; omega
  have hlt := hb.lt k
  have hd : hsh s k = p / 2 ^ s.shift := by unfold hsh; rw [hp]
  obtain ⟨b, hb2⟩ : ∃ b, p / 2 ^ s.shift = b := ⟨_, rfl⟩
  rw [hb2] at hd
  rw [hd] at hlt ⊢
  have hv : ((p : Int) / 2 ^ s.shift) = (b : Int) := by rw [← hb2]; simp
  have hbi : (b : Int) < (s.m : Int) := by omega
  have e0 : ∀ nn, (w.drewN nn).cell? ⟨e, 20, none⟩ = some (.slice (some ⟨gb, 0, none⟩) s.m s.m) := fun nn => h.bks
  have e1 : ∀ nn, (w.drewN nn).cell? ⟨e, 21, none⟩ = some (.int .u64 (s.shift : Int)) := fun nn => h.shift
  have hs64 := hb.sh
  clear h hp hd hb2
  go_enter Tryd.func60, Tryd.ntmps60
  go_upto_region 1 with fail
  go_quiet (fail)
  generalize hw2 : w.drewN nq = w2
  go_wp2
  go_ret
  exact ⟨rfl, nq, hw2.symm⟩
/-- A bucket's chain. -/
def Chn (s : ES) : Int → List Nat → Prop
  | x, [] => x = -1
  | x, i :: L => x = (i : Int) ∧ i < s.n ∧ Chn s (s.chn i) L
theorem Chn.ix {s : ES} {x : Int} : ∀ {L : List Nat}, Chn s x L → Ix s.n x
  | [], h => .inl h
  | i :: L, h => .inr ⟨i, h.2.1, h.1⟩
/-- The first of the chain that holds the key. -/
def fnd (s : ES) (k : Nat) : List Nat → Int
  | [] => -1
  | i :: L => if s.key i = k then (i : Int) else fnd s k L
/-- How much of a list is left from an element on. -/
def sufL (C : List Nat) (x : Int) : Nat := if x = -1 then 0 else (C.dropWhile fun (i : Nat) => decide ((i : Int) ≠ x)).length
theorem sufL_end (C : List Nat) : sufL C (-1) = 0 := if_pos rfl
theorem sufL_at {C1 L : List Nat} {i : Nat} (h : (C1 ++ i :: L).Nodup) : sufL (C1 ++ i :: L) (i : Int) = L.length + 1 := by
  unfold sufL
  rw [if_neg (by omega), List.dropWhile_append_of_pos (fun j hj => by
    rw [List.nodup_append] at h
    have := h.2.2 j hj i (by simp)
    simp
    omega)]
  simp
theorem sufL_le {C1 L : List Nat} {i : Nat} {s : ES} {x : Int} (h : (C1 ++ i :: L).Nodup) (hx : Chn s x L) : sufL (C1 ++ i :: L) x < sufL (C1 ++ i :: L) (i : Int) := by
  rw [sufL_at h]
  cases L with
  | nil =>
    have : x = -1 := hx
    rw [this, sufL_end]
    omega
  | cons j L =>
    obtain ⟨rfl, _⟩ := hx
    have h2 : (C1 ++ [i] ++ j :: L).Nodup := by simpa using h
    have h3 := sufL_at h2
    have e : C1 ++ [i] ++ j :: L = C1 ++ i :: j :: L := by simp
    rw [e] at h3
    rw [h3]
    simp
set_option maxRecDepth 100000 in
set_option maxHeartbeats 1000000 in
theorem find_walk (e gn gb : Nat) (s : ES) (k : Nat) (C : List Nat) (w : World) (h : EM e gn gb s w) (hb : BW s) (hc : Chn s (s.bk (hsh s k)) C) (hnd : C.Nodup) :
    Calls Tryd.prog 41 #[.pointer (some ⟨e, 0, none⟩), .int .u64 (k : Int)] w fun x w' => x = .returned (.int .i32 (fnd s k C)) ∧ ∃ n, w' = w.drewN n := by
  have HE := hid h
  have Hb := hid (bucketOf_walk e gn gb s k w h hb)
  have Hc := hid hc
  have Hnd := hid hnd
  obtain ⟨b, hbb⟩ : ∃ b, hsh s k = b := ⟨_, rfl⟩
  have hlt : b < s.m := by rw [← hbb]; exact hb.lt k
  rw [hbb] at Hb Hc
  clear h hc hbb hnd
  go_enter Tryd.func41, Tryd.ntmps41
  go_wp2_with fail
  refine Hb.out.mono ?_
  rintro x w1 ⟨rfl, n1, rfl⟩
  have HE1 : Hid (EM e gn gb s (w.drewN n1)) := hid (HE.out.drew n1)
  have c0 : (w.drewN n1).cell? ⟨gb, b, none⟩ = some (.int .i32 (s.bk b)) := HE1.out.bk hlt
  obtain ⟨x0, hx0⟩ : ∃ x0, s.bk b = x0 := ⟨_, rfl⟩
  rw [hx0] at c0 Hc
  obtain ⟨w1, hw1⟩ : ∃ w1, w.drewN n1 = w1 := ⟨_, rfl⟩
  rw [hw1] at HE1 c0 ⊢
  have HW1 : Hid (∃ n, w1 = w.drewN n) := hid ⟨n1, hw1.symm⟩
  clear HE Hb hx0 hw1
  have e4 : w1.cell? ⟨e, 4, none⟩ = some (.slice (some ⟨gn, 0, none⟩) s.n s.n) := HE1.out.nds
  go_upto_region 2 with fail
  clear c0
  go_loopw [5] (fun v wr => wr = w1 ∧ ∃ (x : Int), v = .int .i32 x ∧ Hid (∃ C1 L, C = C1 ++ L ∧ Chn s x L ∧ fnd s k L = fnd s k C)) (fun v _ => sufL C (intOf v))
  case atStart => exact ⟨rfl, x0, rfl, hid ⟨[], C, rfl, Hc.out, rfl⟩⟩
  case round =>
    obtain ⟨hwr, x, rfl, HL⟩ := hrel
    have hwr' := hwr.symm
    clear hwr
    subst hwr'
    obtain ⟨C1, L, hC, hL, hF⟩ := HL.out
    cases L with
    | nil =>
      as_aux_lemma =>
      have hx : x = -1 := hL
      subst hx
      have dx : ((-1 : Int) != -1) = false := by decide
      have Hf : Hid (fnd s k C = -1) := hid hF.symm
      go_wp2
      go_ret
      exact ⟨by rw [Hf.out]; rfl, HW1.out⟩
    | cons i L =>
      as_aux_lemma =>
      obtain ⟨rfl, hi, hL2⟩ := hL
      have dx : ((i : Int) != -1) = true := bne_iff_ne.2 (by omega)
      have hin : (i : Int) < (s.n : Int) := by omega
      obtain ⟨ky, hky⟩ : ∃ ky, s.key i = ky := ⟨_, rfl⟩
      obtain ⟨nx, hnx⟩ : ∃ nx, s.chn i = nx := ⟨_, rfl⟩
      have c1 : w1.cell? ⟨gn, i * 7 + 4, none⟩ = some (.int .u64 (ky : Int)) := by rw [HE1.out.key hi, hky]
      have c2 : w1.cell? ⟨gn, i * 7 + 2, none⟩ = some (.int .i32 nx) := by rw [HE1.out.chn hi, hnx]
      rw [hnx] at hL2
      by_cases hk : ky = k
      · as_aux_lemma =>
        have dk : ((ky : Int) == (k : Int)) = true := by rw [hk]; simp
        have Hf : Hid (fnd s k C = (i : Int)) := hid (by rw [← hF, fnd, if_pos (by rw [hky]; exact hk)])
        clear hF hC hL2 HL hky hnx
        go_wp2
        go_ret
        exact ⟨by rw [Hf.out]; rfl, HW1.out⟩
      · as_aux_lemma =>
        have dk : ((ky : Int) == (k : Int)) = false := by rw [beq_eq_false_iff_ne]; omega
        have HL2 : Hid (∃ C1 L, C = C1 ++ L ∧ Chn s nx L ∧ fnd s k L = fnd s k C) := hid ⟨C1 ++ [i], L, by rw [hC]; simp, hL2, by rw [← hF, fnd, if_neg (by rw [hky]; exact hk)]⟩
        have HM : Hid (sufL C nx < sufL C (i : Int)) := hid (by have hh := Hnd.out; rw [hC] at hh ⊢; exact sufL_le hh hL2)
        clear hF hC hL2 HL hky hnx
        go_wp2
        exact ⟨⟨trivial, nx, rfl, HL2⟩, by simp only [intOf]; exact HM.out⟩
def hashInS (s : ES) (i : Nat) : ES := { s with chn := upd s.chn i (s.bk (hsh s (s.key i))), bk := upd s.bk (hsh s (s.key i)) (i : Int) }
set_option maxRecDepth 100000 in
set_option maxHeartbeats 1000000 in
theorem hashIn_walk (e gn gb : Nat) (s : ES) (i : Nat) (w : World) (h : EM e gn gb s w) (hb : BW s) (hi : i < s.n) :
    Calls Tryd.prog 62 #[.pointer (some ⟨e, 0, none⟩), .int .i32 (i : Int)] w fun x w' => x = .returned (.tuple #[]) ∧ EM e gn gb (hashInS s i) w' ∧ U3 e gn gb w w' := by
  have HE := hid h
  obtain ⟨k, hk⟩ : ∃ k, s.key i = k := ⟨_, rfl⟩
  have Hb := hid (bucketOf_walk e gn gb s k w h hb)
  obtain ⟨b, hbb⟩ : ∃ b, hsh s k = b := ⟨_, rfl⟩
  have hlt : b < s.m := by rw [← hbb]; exact hb.lt k
  have hin : (i : Int) < (s.n : Int) := by omega
  have e4 : w.cell? ⟨e, 4, none⟩ = some (.slice (some ⟨gn, 0, none⟩) s.n s.n) := h.nds
  have ek : w.cell? ⟨gn, i * 7 + 4, none⟩ = some (.int .u64 (k : Int)) := by rw [h.key hi, hk]
  rw [hbb] at Hb
  have HB := hid (show hsh s (s.key i) = b by rw [hk]; exact hbb)
  clear h hbb hk
  go_enter Tryd.func62, Tryd.ntmps62
  go_wp2_with fail
  refine Hb.out.mono ?_
  rintro x w1 ⟨rfl, n1, rfl⟩
  have HE1 : Hid (EM e gn gb s (w.drewN n1) ∧ U3 e gn gb w (w.drewN n1)) := hid ⟨HE.out.drew n1, U3.ofBelow (Drew.below ⟨n1, rfl⟩ _)⟩
  generalize w.drewN n1 = w1 at HE1 ⊢
  clear e4 ek HE Hb
  obtain ⟨x0, hx0⟩ : ∃ x0, s.bk b = x0 := ⟨_, rfl⟩
  obtain ⟨X, W, hT, hI⟩ := class_mk (fun w3 => EM e gn gb s w3 ∧ U3 e gn gb w w3)
  have H0 : Hid (∃ x, w1.drew = W x) := hid (hI _ ⟨HE1.out.1.drew 1, HE1.out.2.trans (U3.ofBelow (Drew.below ⟨1, rfl⟩ _))⟩)
  have hne : Nonempty X := ⟨H0.out.choose⟩
  have t0 : ∀ x, (W x).cell? ⟨e, 4, none⟩ = some (.slice (some ⟨gn, 0, none⟩) s.n s.n) := fun x => (hT x).1.nds
  have t1 : ∀ x, (W x).cell? ⟨gb, b, none⟩ = some (.int .i32 x0) := fun x => by rw [(hT x).1.bk hlt, hx0]
  have HTT := hid hT
  have Hx0 := hid hx0
  clear hT hI hx0
  go_upto_region 1 with fail
  refine wp_region_class_lastT W rfl (by kernel_rfl) (by kernel_rfl) (by kernel_rfl) H0.out ?_
  dsimp only [List.dropLast, List.getLast]
  repeat (go_big_quiet_step (fail))
  refine wpQuiet_nil ?_
  intro y
  have HY := hid (HTT.out y)
  generalize W y = wy at HY ⊢
  clear t0 t1 H0 HTT HE1
  have c2 := HY.out.1.chn hi
  have f2 := HY.out.1.nb.frozen (i * 7 + 2)
  have E1 := HY.out.1.setChn hi x0
  have c3 : (wy.setCell ⟨gn, i * 7 + 2, none⟩ (.int .i32 x0)).cell? ⟨gb, b, none⟩ = some (.int .i32 (s.bk b)) := E1.bk hlt
  have f3 := E1.bb.frozen b
  have E2 := E1.setBk hlt (i : Int)
  have HG : Hid (EM e gn gb (hashInS s i) ((wy.setCell ⟨gn, i * 7 + 2, none⟩ (.int .i32 x0)).setCell ⟨gb, b, none⟩ (.int .i32 (i : Int))) ∧ U3 e gn gb w ((wy.setCell ⟨gn, i * 7 + 2, none⟩ (.int .i32 x0)).setCell ⟨gb, b, none⟩ (.int .i32 (i : Int)))) := hid ⟨by unfold hashInS; rw [HB.out, Hx0.out]; exact E2, (HY.out.2.trans (U3.set gn _ _ (.inr (.inl rfl)))).trans (U3.set gb _ _ (.inr (.inr rfl)))⟩
  clear E1 E2
  go_wp2
  refine bodyPost_end (results_none Tryd.results62 _ _ _) rfl ?_
  exact ⟨rfl, HG.out.1, HG.out.2⟩
/-- Out of its chain: the place that names i is given i's successor. -/
def hoS (s : ES) (i : Nat) (C1 : List Nat) : ES := match C1.getLast? with
  | none => { s with bk := upd s.bk (hsh s (s.key i)) (s.chn i) }
  | some j => { s with chn := upd s.chn j (s.chn i) }
def hashOutS (s : ES) (i : Nat) (C1 : List Nat) : ES := { hoS s i C1 with chn := upd (hoS s i C1).chn i (-1) }
def mAt (C : List Nat) (v : Value) (w : World) : Nat := match v with
  | .pointer (some a) => (match w.cell? a with | some x => sufL C (intOf x) | none => 0)
  | _ => 0
theorem mAt_at {C : List Nat} {a : Addr} {w : World} {x : Int} (h : w.cell? a = some (.int .i32 x)) : mAt C (.pointer (some a)) w = sufL C x := by unfold mAt; simp only [h]; rfl
/-- The place that names the next. -/
def plc (gn gb b : Nat) (D : List Nat) : Addr := match D.getLast? with
  | none => ⟨gb, b, none⟩
  | some j => ⟨gn, j * 7 + 2, none⟩
def plV (s : ES) (b : Nat) (D : List Nat) : Int := match D.getLast? with
  | none => s.bk b
  | some j => s.chn j
theorem plc_cell {e gn gb : Nat} {s : ES} {w : World} (h : EM e gn gb s w) {b : Nat} (hb : b < s.m) {D : List Nat} (hD : ∀ j ∈ D, j < s.n) : w.cell? (plc gn gb b D) = some (.int .i32 (plV s b D)) := by
  unfold plc plV
  cases hl : D.getLast? with
  | none => exact h.bk hb
  | some j => exact h.chn (hD j (List.mem_of_getLast? hl))
theorem Chn.lt {s : ES} : ∀ {L : List Nat} {x : Int}, Chn s x L → ∀ j ∈ L, j < s.n
  | [], _, _, j, hj => by cases hj
  | i :: L, x, h, j, hj => by
    rcases List.mem_cons.1 hj with rfl | hj
    · exact h.2.1
    · exact h.2.2.lt j hj
theorem Chn.split {s : ES} : ∀ {D : List Nat} {L : List Nat} {x : Int} {b : Nat}, x = s.bk b → Chn s x (D ++ L) → Chn s (plV s b D) L
  | [], L, x, b, hx, h => by
    show Chn s (s.bk b) L
    rw [← hx]
    exact h
  | i :: D, L, x, b, hx, h => by
    have go : ∀ (D L : List Nat) (i : Nat), Chn s (s.chn i) (D ++ L) → Chn s (plV s b (i :: D)) L := by
      intro D
      induction D with
      | nil => intro L i h; exact h
      | cons j D ih =>
        intro L i h
        have := ih L j h.2.2
        unfold plV at this ⊢
        rw [List.getLast?_cons_cons]
        exact this
    exact go D L i h.2.2
set_option maxRecDepth 100000 in
set_option maxHeartbeats 2000000 in
theorem hashOut_walk (e gn gb : Nat) (s : ES) (i : Nat) (C1 C2 : List Nat) (w : World) (h : EM e gn gb s w) (hb : BW s) (hi : i < s.n) (hc : Chn s (s.bk (hsh s (s.key i))) (C1 ++ i :: C2)) (hnd : (C1 ++ i :: C2).Nodup) :
    Calls Tryd.prog 61 #[.pointer (some ⟨e, 0, none⟩), .int .i32 (i : Int)] w fun x w' => x = .returned (.tuple #[]) ∧ EM e gn gb (hashOutS s i C1) w' ∧ U3 e gn gb w w' := by
  have HE := hid h
  have Hc := hid hc
  have Hnd := hid hnd
  obtain ⟨k, hk⟩ : ∃ k, s.key i = k := ⟨_, rfl⟩
  have Hb := hid (bucketOf_walk e gn gb s k w h hb)
  obtain ⟨b, hbb⟩ : ∃ b, hsh s k = b := ⟨_, rfl⟩
  have hlt : b < s.m := by rw [← hbb]; exact hb.lt k
  have hin : (i : Int) < (s.n : Int) := by omega
  have e4 : w.cell? ⟨e, 4, none⟩ = some (.slice (some ⟨gn, 0, none⟩) s.n s.n) := h.nds
  have ek : w.cell? ⟨gn, i * 7 + 4, none⟩ = some (.int .u64 (k : Int)) := by rw [h.key hi, hk]
  rw [hbb] at Hb
  rw [hk, hbb] at Hc
  have HBk : Hid (hsh s (s.key i) = b) := hid (by rw [hk]; exact hbb)
  clear h hbb hk hc hnd
  go_enter Tryd.func61, Tryd.ntmps61
  go_wp2_with fail
  refine Hb.out.mono ?_
  rintro x w1 ⟨rfl, n1, rfl⟩
  have HE1 : Hid (EM e gn gb s (w.drewN n1) ∧ U3 e gn gb w (w.drewN n1)) := hid ⟨HE.out.drew n1, U3.ofBelow (Drew.below ⟨n1, rfl⟩ _)⟩
  generalize w.drewN n1 = w1 at HE1 ⊢
  clear e4 ek HE Hb
  go_upto_region 1 with fail
  go_loopw [4] (fun v wr => ∃ (ad : Addr) (x : Int), v = .pointer (some ad) ∧ wr.cell? ad = some (.int .i32 x) ∧ Hid (EM e gn gb s wr ∧ U3 e gn gb w wr ∧ ∃ D1 D2, C1 = D1 ++ D2 ∧ ad = plc gn gb b D1 ∧ x = plV s b D1)) (fun v wr => mAt (C1 ++ i :: C2) v wr)
  case atStart => exact ⟨⟨gb, b, none⟩, s.bk b, rfl, HE1.out.1.bk hlt, hid ⟨HE1.out.1, HE1.out.2, [], C1, rfl, rfl, rfl⟩⟩
  case round =>
  clear HE1
  obtain ⟨ad, x, rfl, cad, HX⟩ := hrel
  obtain ⟨hE, hU, D1, D2, hD, had, hx⟩ := HX.out
  have hch : Chn s x (D2 ++ i :: C2) := by
    rw [hx]
    refine Chn.split (x := s.bk b) rfl ?_
    have := Hc.out
    rw [hD, List.append_assoc] at this
    exact this
  cases D2 with
  | cons j D2 =>
    as_aux_lemma =>
    obtain ⟨hxj, hj, hch2⟩ := hch
    subst hxj
    have hji : j ≠ i := fun e => by
      have := Hnd.out
      rw [hD, List.nodup_append] at this
      exact this.2.2 j (by simp) i (by simp) e
    have dx : ((j : Int) != (i : Int)) = true := bne_iff_ne.2 (by omega)
    have jn : (j : Int) < (s.n : Int) := by omega
    have t0 : ∀ nn, (wr.drewN nn).cell? ⟨e, 4, none⟩ = some (.slice (some ⟨gn, 0, none⟩) s.n s.n) := fun nn => hE.nds
    have t1 : ∀ nn, (wr.drewN nn).cell? ad = some (.int .i32 (j : Int)) := fun nn => cad
    have HM : Hid (mAt (C1 ++ i :: C2) (.pointer (some ad)) wr = sufL (C1 ++ i :: C2) (j : Int)) := hid (mAt_at cad)
    have HM2 : Hid (sufL (C1 ++ i :: C2) (s.chn j) < sufL (C1 ++ i :: C2) (j : Int)) := hid (by
      have hnd := Hnd.out
      have e1 : C1 ++ i :: C2 = D1 ++ j :: (D2 ++ i :: C2) := by rw [hD]; simp
      rw [e1] at hnd ⊢
      exact sufL_le hnd hch2)
    have HN : Hid (∃ D1' D2', C1 = D1' ++ D2' ∧ (⟨gn, j * 7 + 2, none⟩ : Addr) = plc gn gb b D1' ∧ s.chn j = plV s b D1') := hid ⟨D1 ++ [j], D2, by rw [hD]; simp, by unfold plc; rw [List.getLast?_append]; rfl, by unfold plV; rw [List.getLast?_append]; rfl⟩
    have Hcj : Hid (∀ nn, (wr.drewN nn).cell? ⟨gn, j * 7 + 2, none⟩ = some (.int .i32 (s.chn j))) := hid (fun nn => (hE.drew nn).chn hj)
    have HEU := hid (And.intro hE hU)
    clear hE hU hD had hx hch2 HX
    go_upto_region 2 with fail
    go_quiet (fail)
    have HE2 : Hid (EM e gn gb s (wr.drewN nq) ∧ U3 e gn gb w (wr.drewN nq) ∧ ∃ D1 D2, C1 = D1 ++ D2 ∧ (⟨gn, j * 7 + 2, none⟩ : Addr) = plc gn gb b D1 ∧ s.chn j = plV s b D1) := hid ⟨HEU.out.1.drew nq, HEU.out.2.trans (U3.ofBelow (Drew.below ⟨nq, rfl⟩ _)), HN.out⟩
    have HC2 := hid (Hcj.out nq)
    generalize wr.drewN nq = w3 at HE2 HC2 ⊢
    clear t0 t1 Hcj HEU
    go_wp2
    refine ⟨⟨⟨gn, j * 7 + 2, none⟩, s.chn j, rfl, HC2.out, HE2⟩, ?_⟩
    rw [mAt_at HC2.out, HM.out]
    exact HM2.out
  | nil =>
  as_aux_lemma =>
  obtain ⟨hxi, _, _⟩ := hch
  subst hxi
  rw [List.append_nil] at hD
  subst hD
  have dx : ((i : Int) != (i : Int)) = false := by simp
  obtain ⟨y, hy⟩ : ∃ y, s.chn i = y := ⟨_, rfl⟩
  have t0 : wr.cell? ⟨e, 4, none⟩ = some (.slice (some ⟨gn, 0, none⟩) s.n s.n) := hE.nds
  have t1 : wr.cell? ⟨gn, i * 7 + 2, none⟩ = some (.int .i32 y) := by rw [hE.chn hi, hy]
  have hlast : ∀ j, C1.getLast? = some j → j < s.n ∧ j ≠ i := fun j hj => by
    have hm := List.mem_of_getLast? hj
    refine ⟨Hc.out.lt j (by simp [hm]), fun e => ?_⟩
    have := Hnd.out
    rw [List.nodup_append] at this
    exact this.2.2 j hm i (by simp) e
  have HFin : Hid (∀ (s2 : ES) (w2 : World), s2 = hoS s i C1 → EM e gn gb s2 w2 → U3 e gn gb w w2 → s2.n = s.n → w2.cell? ⟨e, 4, none⟩ = some (.slice (some ⟨gn, 0, none⟩) s.n s.n) ∧ w2.cell? ⟨gn, i * 7 + 2, none⟩ = some (.int .i32 (s2.chn i)) ∧ w2.frozen? ⟨gn, i * 7 + 2, none⟩ = false ∧ Hid (EM e gn gb (hashOutS s i C1) (w2.setCell ⟨gn, i * 7 + 2, none⟩ (.int .i32 (-1))) ∧ U3 e gn gb w (w2.setCell ⟨gn, i * 7 + 2, none⟩ (.int .i32 (-1))))) := hid (fun s2 w2 h1 h2 h3 h4 => ⟨by rw [h2.nds, h4], h2.chn (by rw [h4]; exact hi), h2.nb.frozen _, hid ⟨by unfold hashOutS; rw [← h1]; exact h2.setChn (by rw [h4]; exact hi) (-1), h3.trans (U3.set gn _ _ (.inr (.inl rfl)))⟩⟩)
  have Hho : Hid (hoS s i C1 = match C1.getLast? with | none => { s with bk := upd s.bk b y } | some j => { s with chn := upd s.chn j y }) := hid (by unfold hoS; rw [HBk.out, hy])
  cases hl : C1.getLast? with
  | none =>
    as_aux_lemma =>
    rw [hl] at Hho
    have had2 : ad = ⟨gb, b, none⟩ := by rw [had]; unfold plc; rw [hl]
    subst had2
    have f2 := hE.bb.frozen b
    obtain ⟨g1, g2, g3, HG⟩ := HFin.out _ (wr.setCell ⟨gb, b, none⟩ (.int .i32 y)) Hho.out.symm (hE.setBk hlt y) (hU.trans (U3.set gb _ _ (.inr (.inr rfl)))) rfl
    clear HFin Hho HX hE hU had hy hlast hx
    go_wp2
    refine bodyPost_end (results_none Tryd.results61 _ _ _) rfl ?_
    exact ⟨rfl, HG.out.1, HG.out.2⟩
  | some j =>
    as_aux_lemma =>
    rw [hl] at Hho
    have had2 : ad = ⟨gn, j * 7 + 2, none⟩ := by rw [had]; unfold plc; rw [hl]
    subst had2
    have f2 := hE.nb.frozen (j * 7 + 2)
    obtain ⟨g1, g2, g3, HG⟩ := HFin.out _ (wr.setCell ⟨gn, j * 7 + 2, none⟩ (.int .i32 y)) Hho.out.symm (hE.setChn (hlast j hl).1 y) (hU.trans (U3.set gn _ _ (.inr (.inl rfl)))) rfl
    clear HFin Hho HX hE hU had hy hlast hx
    go_wp2
    refine bodyPost_end (results_none Tryd.results61 _ _ _) rfl ?_
    exact ⟨rfl, HG.out.1, HG.out.2⟩
end Go.Proofs.Qxb6500892aDoor
