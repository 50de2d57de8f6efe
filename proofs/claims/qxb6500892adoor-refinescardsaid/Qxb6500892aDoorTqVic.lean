/- oldest, Len, Victim, Reclaim. -/
import Derived.Test.Qxb6500892aDoorTqOp5
namespace Go.Proofs.Qxb6500892aDoor
open Go.RowKit
set_option linter.unusedSimpArgs false
set_option linter.unusedVariables false

def vicP (s : ES) (B : Bool) (i : Nat) : Bool := decide (s.pin i = 0) && (s.neg i || !B)
def vicO (s : ES) (B : Bool) (l : List Nat) : Option Nat := l.reverse.find? (vicP s B)
def ovV : Option Nat → Int
  | none => 0
  | some i => (i : Int)
def ov (o : Option Nat) : Value := .tuple #[.int .i64 (ovV o), .bool o.isSome]
theorem vicO_snoc (s : ES) (B : Bool) (A : List Nat) (i : Nat) : vicO s B (A ++ [i]) = if vicP s B i = true then some i else vicO s B A := by
  unfold vicO
  rw [List.reverse_append]
  show List.find? _ (i :: A.reverse) = _
  rw [List.find?_cons]
  cases vicP s B i <;> rfl
section
variable {e gn gb : Nat} {w0 : World} {s : ES} {L C : Nat → List Nat} {w : World}
set_option maxRecDepth 100000 in
set_option maxHeartbeats 1000000 in
theorem oldest_walk (hE : EM e gn gb s w) (hQ : QI s L) {q : Nat} (hq : q < 5) (B : Bool) :
    Calls Tryd.prog 39 #[.pointer (some ⟨e, 0, none⟩), .int .u8 (q : Int), .bool B] w fun y w' => y = .returned (ov (vicO s B (L q))) ∧ w' = w := by
  have HE := hid hE
  have hD := hQ.dl q hq
  have HD := hid hD
  have hnb := hQ.nb
  obtain ⟨M, hM⟩ : ∃ M, L q = M := ⟨_, rfl⟩
  rw [hM] at HD hD ⊢
  have q5 : (q : Int) < 5 := by omega
  obtain ⟨x0, hx0⟩ : ∃ x0, s.tl q = x0 := ⟨_, rfl⟩
  have c0 : w.cell? ⟨e, 5 + q * 3 + 1, none⟩ = some (.int .i32 x0) := by rw [hE.tl hq, hx0]
  have e4 : w.cell? ⟨e, 4, none⟩ = some (.slice (some ⟨gn, 0, none⟩) s.n s.n) := hE.nds
  have Hx0 : Hid (x0 = lastI M) := hid (by rw [← hx0]; exact hD.tl)
  clear hE hQ hM hx0 hD
  go_enter Tryd.func39, Tryd.ntmps39
  go_upto_region 2 with fail
  clear c0
  go_loopw [8] (fun v wr => wr = w ∧ ∃ (x : Int), v = .int .i32 x ∧ Hid (∃ A D, M = A ++ D ∧ x = lastI A ∧ vicO s B M = vicO s B A)) (fun v _ => sufL M.reverse (intOf v))
  case atStart => exact ⟨rfl, x0, rfl, hid ⟨M, [], by simp, Hx0.out, rfl⟩⟩
  case round =>
  obtain ⟨hwr, x, rfl, HL⟩ := hrel
  have hwr' := hwr.symm
  clear hwr
  subst hwr'
  obtain ⟨A, D, hM, hx, hv⟩ := HL.out
  rcases lastI_cases A with ⟨hA, hl⟩ | ⟨A', i, hA, hl⟩
  · as_aux_lemma =>
    rw [hl] at hx
    subst hx
    have dx : ((-1 : Int) != -1) = false := by decide
    have Hv : Hid (vicO s B M = none) := hid (by rw [hv, hA]; rfl)
    clear hM hv hA hl HL
    go_wp2
    refine bodyPost_ret (results_tmp2 Tryd.results39 _ _ _) rfl ?_
    exact ⟨by rw [Hv.out]; rfl, rfl⟩
  rw [hl] at hx
  subst hx
  subst hA
  have hMi : i ∈ M := by rw [hM]; simp
  have hi : i < s.n := HD.out.lt i hMi
  have hii : (i : Int) < (s.n : Int) := by omega
  have dx : ((i : Int) != -1) = true := bne_iff_ne.2 (by omega)
  have hw64 : wrap64 (i : Int) = (i : Int) := by unfold wrap64; omega
  have hpr : s.prv i = lastI A' := HD.out.pr A' i D (by rw [hM]; simp)
  obtain ⟨z, hz⟩ : ∃ z, s.pin i = z := ⟨_, rfl⟩
  obtain ⟨b, hb⟩ : ∃ b, s.neg i = b := ⟨_, rfl⟩
  obtain ⟨y, hy⟩ : ∃ y, s.prv i = y := ⟨_, rfl⟩
  have c1 : w.cell? ⟨gn, i * 7 + 3, none⟩ = some (.int .i32 z) := by rw [HE.out.pin hi, hz]
  have c2 : w.cell? ⟨gn, i * 7 + 6, none⟩ = some (.bool b) := by rw [HE.out.neg hi, hb]
  have c3 : w.cell? ⟨gn, i * 7, none⟩ = some (.int .i32 y) := by rw [HE.out.prv hi, hy]
  have hs := vicO_snoc s B A' i
  have hP : vicP s B i = (decide (z = 0) && (b || !B)) := by unfold vicP; rw [hz, hb]
  by_cases hg : vicP s B i = true
  · as_aux_lemma =>
    have Hv : Hid (vicO s B M = some i) := hid (by rw [hv, hs, if_pos hg])
    rw [hP] at hg
    have hz0 : z = 0 := by simp at hg; exact hg.1
    subst hz0
    have hbB : (b || !B) = true := by simpa using hg
    clear hM hv HL hpr hs hP hg hz hb hy
    cases b with
    | true =>
      go_wp2
      refine bodyPost_ret (results_tmp2 Tryd.results39 _ _ _) rfl ?_
      exact ⟨by rw [Hv.out]; rfl, rfl⟩
    | false =>
      cases B with
      | true => cases hbB
      | false =>
        go_wp2
        refine bodyPost_ret (results_tmp2 Tryd.results39 _ _ _) rfl ?_
        exact ⟨by rw [Hv.out]; rfl, rfl⟩
  have HL2 : Hid (∃ A D, M = A ++ D ∧ y = lastI A ∧ vicO s B M = vicO s B A) := hid ⟨A', i :: D, by rw [hM]; simp, by rw [← hy]; exact hpr, by rw [hv, hs, if_neg hg]⟩
  have HMs : Hid (sufL M.reverse y < sufL M.reverse (i : Int)) := hid (by
    have hnd : M.reverse.Nodup := (List.pairwise_reverse.2 (HD.out.nd.imp (fun h => Ne.symm h)))
    have hr : M.reverse = D.reverse ++ i :: A'.reverse := by rw [hM]; simp
    rw [hr] at hnd ⊢
    rw [sufL_at hnd, ← hy, hpr]
    rcases lastI_cases A' with ⟨_, e1⟩ | ⟨A2, j, e1, e2⟩
    · rw [e1, sufL_end]; omega
    · rw [e2]
      have hnd2 : (D.reverse ++ [i] ++ j :: A2.reverse).Nodup := by rw [e1] at hnd; simpa using hnd
      have := sufL_at hnd2
      rw [e1]
      have e3 : D.reverse ++ i :: (A2 ++ [j]).reverse = D.reverse ++ [i] ++ j :: A2.reverse := by simp
      rw [e3, this]
      simp)
  have hg2 : (decide (z = 0) && (b || !B)) = false := by rw [← hP]; simpa using hg
  clear hM hv HL hpr hs hP hg hz hb hy
  by_cases hz0 : z = 0
  · as_aux_lemma =>
    subst hz0
    have hbB : (b || !B) = false := by simpa using hg2
    have hb : b = false := by cases b with | false => rfl | true => cases hbB
    subst hb
    have hB : B = true := by cases B with | true => rfl | false => cases hbB
    subst hB
    clear hg2 hbB
    go_wp2
    exact ⟨⟨trivial, y, rfl, HL2⟩, by simp only [intOf]; exact HMs.out⟩
  · as_aux_lemma =>
    have dz : (z == 0) = false := by rw [beq_eq_false_iff_ne]; exact hz0
    clear hg2
    go_wp2
    exact ⟨⟨trivial, y, rfl, HL2⟩, by simp only [intOf]; exact HMs.out⟩
set_option maxRecDepth 100000 in
theorem len_walk (hE : EM e gn gb s w) (hQ : QI s L) :
    Calls Tryd.prog 22 #[.pointer (some ⟨e, 0, none⟩)] w fun y w' => y = .returned (.int .i64 ((L 1).length + (L 2).length : Int)) ∧ ∃ n, w' = w.drewN n := by
  obtain ⟨z1, h1⟩ : ∃ z, s.sz 1 = z := ⟨_, rfl⟩
  obtain ⟨z2, h2⟩ : ∃ z, s.sz 2 = z := ⟨_, rfl⟩
  have e1 : ∀ nn, (w.drewN nn).cell? ⟨e, 10, none⟩ = some (.int .i64 z1) := fun nn => by rw [← h1]; exact hE.sz (q := 1) (by omega)
  have e2 : ∀ nn, (w.drewN nn).cell? ⟨e, 13, none⟩ = some (.int .i64 z2) := fun nn => by rw [← h2]; exact hE.sz (q := 2) (by omega)
  have b1 := hQ.szb (q := 1) (by omega)
  have b2 := hQ.szb (q := 2) (by omega)
  rw [h1] at b1
  rw [h2] at b2
  have b11 := b1.1
  have b12 := b1.2
  have b21 := b2.1
  have b22 := b2.2
  have Hr : Hid (z1 + z2 = ((L 1).length + (L 2).length : Int)) := hid (by rw [← h1, ← h2, (hQ.dl 1 (by omega)).sz, (hQ.dl 2 (by omega)).sz])
  clear hE hQ h1 h2 b1 b2
  go_enter Tryd.func22, Tryd.ntmps22
  go_upto_region 1 with fail
  go_quiet (fail)
  generalize hw2 : w.drewN nq = w2
  go_wp2
  go_ret
  exact ⟨by rw [← Hr.out]; rfl, nq, hw2.symm⟩
end
def vor (a b : Option Nat) : Option Nat := match a with
  | some i => some i
  | none => b
/-- Which entry should go next. -/
def victimS (s : ES) (L : Nat → List Nat) : Option Nat :=
  if s.pinned = ((L 1).length + (L 2).length : Int) then none
  else vor (if (s.kneg : Int) < s.negs then vicO s true (L 1) else none) (if s.kin < (L 1).length then vor (vicO s false (L 1)) (vicO s false (L 2)) else vor (vicO s false (L 2)) (vicO s false (L 1)))
section
variable {e gn gb : Nat} {w0 : World} {s : ES} {L C : Nat → List Nat} {w : World}
theorem len_bel (h : EE e gn gb w0 s L C w) : Calls Tryd.prog 22 #[.pointer (some ⟨e, 0, none⟩)] w fun y w' => y = .returned (.int .i64 ((L 1).length + (L 2).length : Int)) ∧ Below w.heap.size w w' := by
  refine (len_walk h.em h.ei.q).mono ?_
  rintro y w' ⟨rfl, n, rfl⟩
  exact ⟨rfl, Drew.below ⟨n, rfl⟩ _⟩
set_option maxRecDepth 100000 in
set_option maxHeartbeats 2000000 in
theorem victim_ee (h : EE e gn gb w0 s L C w) :
    Calls Tryd.prog 20 #[.pointer (some ⟨e, 0, none⟩)] w fun y w' => y = .returned (ov (victimS s L)) ∧ EE e gn gb w0 s L C w' ∧ Below w.heap.size w w' := by
  have HE := hid h
  obtain ⟨T, hT⟩ : ∃ T : Int, ((L 1).length + (L 2).length : Int) = T := ⟨_, rfl⟩
  obtain ⟨pd, hpd⟩ : ∃ pd, s.pinned = pd := ⟨_, rfl⟩
  have HT := hid hT
  have Hpd := hid hpd
  clear h hT hpd
  go_enter Tryd.func20, Tryd.ntmps20
  go_upto_region 1 with fail
  obtain ⟨X, W, hTT, hI⟩ := class_mk (fun w2 => EE e gn gb w0 s L C w2 ∧ Below w.heap.size w w2)
  have H0 : Hid (∃ x, w.drew = W x) := hid (hI _ ⟨HE.out.below (Drew.below ⟨1, rfl⟩ _), Drew.below ⟨1, rfl⟩ _⟩)
  have hne : Nonempty X := ⟨H0.out.choose⟩
  have HCl : Hid (∀ x w2, Below (W x).heap.size (W x) w2 → ∃ y, w2 = W y) := hid (fun x w2 hb => hI _ ⟨(hTT x).1.below hb, (hTT x).2.trans (hb.mono (hTT x).2.size)⟩)
  have t0 : ∀ x, (W x).cell? ⟨e, 23, none⟩ = some (.int .i64 pd) := fun x => by rw [(hTT x).1.em.pinned, Hpd.out]
  have HLn : Hid (∀ x, Calls Tryd.prog 22 #[.pointer (some ⟨e, 0, none⟩)] (W x) fun y w' => y = .returned (.int .i64 T) ∧ Below (W x).heap.size (W x) w') := hid (fun x => by rw [← HT.out]; exact len_bel (hTT x).1)
  have HTT := hid hTT
  clear hTT hI
  refine wp_region_class W rfl (by kernel_rfl) H0.out ?_
  repeat (go_big_quiet_step ((go_at_call 22; exact Calls.class_of HCl.out (HLn.out _))))
  refine wpQuiet_nil ?_
  intro z
  have HZ := hid (HTT.out z)
  generalize W z = wz at HZ ⊢
  clear t0 HCl HLn H0 HTT hne
  by_cases hpt : pd = T
  · as_aux_lemma =>
    have dp : (pd == T) = true := by rw [hpt]; simp
    have Hv : Hid (victimS s L = none) := hid (by unfold victimS; rw [if_pos (by rw [Hpd.out, HT.out]; exact hpt)])
    clear hpt
    go_wp2
    refine bodyPost_ret (results_tmp2 Tryd.results20 _ _ _) rfl ?_
    exact ⟨by rw [Hv.out]; rfl, HZ.out.1, HZ.out.2⟩
  have dp : (pd == T) = false := by rw [beq_eq_false_iff_ne]; exact hpt
  try simp only [dp]
  obtain ⟨ng, hng⟩ : ∃ ng, s.negs = ng := ⟨_, rfl⟩
  have t1 : ∀ nn, (wz.drewN nn).cell? ⟨e, 22, none⟩ = some (.int .i64 ng) := fun nn => by rw [← hng]; exact HZ.out.1.em.negs
  have t2 : ∀ nn, (wz.drewN nn).cell? ⟨e, 3, none⟩ = some (.int .i64 (s.kneg : Int)) := fun nn => HZ.out.1.em.kneg
  obtain ⟨Bn, hBn⟩ : ∃ Bn, decide ((s.kneg : Int) < ng) = Bn := ⟨_, rfl⟩
  obtain ⟨rest, hrest⟩ : ∃ o, (if s.kin < (L 1).length then vor (vicO s false (L 1)) (vicO s false (L 2)) else vor (vicO s false (L 2)) (vicO s false (L 1))) = o := ⟨_, rfl⟩
  have HV0 : Hid (victimS s L = vor (if Bn = true then vicO s true (L 1) else none) rest) := hid (by
    unfold victimS
    rw [if_neg (by rw [Hpd.out, HT.out]; exact hpt), hrest, hng, ← hBn]
    simp only [decide_eq_true_eq])
  have Hrest := hid hrest
  clear hng hpt hrest
  go_upto_region 3 with fail
  go_quiet (fail)
  have HZ1 : Hid (EE e gn gb w0 s L C (wz.drewN nq) ∧ Below w.heap.size w (wz.drewN nq)) := hid ⟨HZ.out.1.below (Drew.below ⟨nq, rfl⟩ _), HZ.out.2.trans ((Drew.below ⟨nq, rfl⟩ _ : Below wz.heap.size wz (wz.drewN nq)).mono HZ.out.2.size)⟩
  generalize wz.drewN nq = w3 at HZ1 ⊢
  clear t1 t2 HZ dp
  go_upto_if 22 with fail
  clear hBn
  go_cut [2, 3] from 23 to 29 (fun v2 v3 wc => Hid (EE e gn gb w0 s L C wc ∧ Below w.heap.size w wc ∧ victimS s L = rest))
  case first =>
    as_aux_lemma =>
    cases Bn with
    | false =>
      have HG : Hid (EE e gn gb w0 s L C w3 ∧ Below w.heap.size w w3 ∧ victimS s L = rest) := hid ⟨HZ1.out.1, HZ1.out.2, by rw [HV0.out]; rfl⟩
      go_wp2
      go_meet
      case rel => exact HG
    | true =>
      have HO := hid (oldest_walk HZ1.out.1.em HZ1.out.1.ei.q (q := 1) (by omega) true)
      go_wp2_with fail
      refine HO.out.mono ?_
      rintro y w4 ⟨rfl, hw4⟩
      have hw4' := hw4.symm
      clear hw4
      subst hw4'
      cases ho : vicO s true (L 1) with
      | none =>
        have HG : Hid (EE e gn gb w0 s L C w3 ∧ Below w.heap.size w w3 ∧ victimS s L = rest) := hid ⟨HZ1.out.1, HZ1.out.2, by rw [HV0.out]; simp [ho, vor]⟩
        unfold ov
        simp only [ovV, Option.isSome]
        clear ho
        go_wp2
        go_meet
        case rel => exact HG
      | some i =>
        have Hv : Hid (victimS s L = some i) := hid (by rw [HV0.out]; simp [ho, vor])
        unfold ov
        simp only [ovV, Option.isSome]
        clear ho
        go_wp2
        refine bodyPost_ret (results_tmp2 Tryd.results20 _ _ _) rfl ?_
        exact ⟨by rw [Hv.out]; rfl, HZ1.out.1, HZ1.out.2⟩
  case rest =>
  as_aux_lemma =>
  have HZ2 := hcut
  clear hcut HZ1 HV0
  obtain ⟨z1, h1⟩ : ∃ z, s.sz 1 = z := ⟨_, rfl⟩
  have hz1 : z1 = ((L 1).length : Int) := by rw [← h1]; exact (HZ2.out.1.ei.q.dl 1 (by omega)).sz
  have t1 : ∀ nn, (wc.drewN nn).cell? ⟨e, 10, none⟩ = some (.int .i64 z1) := fun nn => by rw [← h1]; exact HZ2.out.1.em.sz (q := 1) (by omega)
  have t2 : ∀ nn, (wc.drewN nn).cell? ⟨e, 1, none⟩ = some (.int .i64 (s.kin : Int)) := fun nn => HZ2.out.1.em.kin
  obtain ⟨Bk, hBk⟩ : ∃ Bk, decide ((s.kin : Int) < z1) = Bk := ⟨_, rfl⟩
  have HBk : Hid (decide (s.kin < (L 1).length) = Bk) := hid (by rw [← hBk, decide_eq_decide, hz1]; omega)
  clear h1 hz1
  go_upto_region 8 with fail
  go_quiet (fail)
  have HZ3 : Hid (EE e gn gb w0 s L C (wc.drewN nq) ∧ Below w.heap.size w (wc.drewN nq) ∧ victimS s L = rest) := hid ⟨HZ2.out.1.below (Drew.below ⟨nq, rfl⟩ _), HZ2.out.2.1.trans ((Drew.below ⟨nq, rfl⟩ _ : Below wc.heap.size wc (wc.drewN nq)).mono HZ2.out.2.1.size), HZ2.out.2.2⟩
  generalize wc.drewN nq = w5 at HZ3 ⊢
  clear t1 t2 HZ2
  cases Bk with
  | true =>
    as_aux_lemma =>
    have HR : Hid (rest = vor (vicO s false (L 1)) (vicO s false (L 2))) := hid (by rw [← Hrest.out, if_pos (of_decide_eq_true HBk.out)])
    have HO := hid (oldest_walk HZ3.out.1.em HZ3.out.1.ei.q (q := 1) (by omega) false)
    have HO2 := hid (oldest_walk HZ3.out.1.em HZ3.out.1.ei.q (q := 2) (by omega) false)
    clear hBk
    go_wp2_with fail
    refine HO.out.mono ?_
    rintro y w6 ⟨rfl, hw6⟩
    have hw6' := hw6.symm
    clear hw6
    subst hw6'
    cases ho : vicO s false (L 1) with
    | some i =>
      have Hv : Hid (victimS s L = some i) := hid (by rw [HZ3.out.2.2, HR.out, ho]; rfl)
      unfold ov
      simp only [ovV, Option.isSome]
      clear ho
      go_wp2
      refine bodyPost_ret (results_tmp2 Tryd.results20 _ _ _) rfl ?_
      exact ⟨by rw [Hv.out]; rfl, HZ3.out.1, HZ3.out.2.1⟩
    | none =>
      have Hv : Hid (victimS s L = vicO s false (L 2)) := hid (by rw [HZ3.out.2.2, HR.out, ho]; rfl)
      unfold ov
      simp only [ovV, Option.isSome]
      clear ho
      go_wp2_with fail
      refine HO2.out.mono ?_
      rintro y w7 ⟨rfl, hw7⟩
      have hw7' := hw7.symm
      clear hw7
      subst hw7'
      unfold ov
      go_wp2
      refine bodyPost_ret (results_tmp2 Tryd.results20 _ _ _) rfl ?_
      exact ⟨by rw [Hv.out]; rfl, HZ3.out.1, HZ3.out.2.1⟩
  | false =>
    as_aux_lemma =>
    have HR : Hid (rest = vor (vicO s false (L 2)) (vicO s false (L 1))) := hid (by rw [← Hrest.out, if_neg (of_decide_eq_false HBk.out)])
    have HO := hid (oldest_walk HZ3.out.1.em HZ3.out.1.ei.q (q := 2) (by omega) false)
    have HO2 := hid (oldest_walk HZ3.out.1.em HZ3.out.1.ei.q (q := 1) (by omega) false)
    clear hBk
    go_wp2_with fail
    refine HO.out.mono ?_
    rintro y w6 ⟨rfl, hw6⟩
    have hw6' := hw6.symm
    clear hw6
    subst hw6'
    cases ho : vicO s false (L 2) with
    | some i =>
      have Hv : Hid (victimS s L = some i) := hid (by rw [HZ3.out.2.2, HR.out, ho]; rfl)
      unfold ov
      simp only [ovV, Option.isSome]
      clear ho
      go_wp2
      refine bodyPost_ret (results_tmp2 Tryd.results20 _ _ _) rfl ?_
      exact ⟨by rw [Hv.out]; rfl, HZ3.out.1, HZ3.out.2.1⟩
    | none =>
      have Hv : Hid (victimS s L = vicO s false (L 1)) := hid (by rw [HZ3.out.2.2, HR.out, ho]; rfl)
      unfold ov
      simp only [ovV, Option.isSome]
      clear ho
      go_wp2_with fail
      refine HO2.out.mono ?_
      rintro y w7 ⟨rfl, hw7⟩
      have hw7' := hw7.symm
      clear hw7
      subst hw7'
      unfold ov
      go_wp2
      refine bodyPost_ret (results_tmp2 Tryd.results20 _ _ _) rfl ?_
      exact ⟨by rw [Hv.out]; rfl, HZ3.out.1, HZ3.out.2.1⟩
end
end Go.Proofs.Qxb6500892aDoor
