/- Walk: NeedDir of a path, AppendRest. -/
import Derived.Test.Qxb6500891aPtWkE
import Derived.Test.Qxb6500891aOwn
import Derived.Deep.DeepCutAuto
namespace Go.Proofs.Qxb6500891a
open Go.RowKit
set_option linter.unusedSimpArgs false
set_option linter.unusedVariables false

set_option maxRecDepth 1000000 in
set_option maxHeartbeats 2000000 in
theorem pndir_walk (g o : Nat) (t : TypeId) (cs : List Value) (l : List Nat) (sp : List Sp) (w : World) (hb : Blk w g t cs) (hp : PathOk cs o l sp) :
    Calls Try.prog 12 #[.pointer (some ⟨g, o, none⟩)] w fun e w' => (∃ b, e = .returned (.bool b) ∧ (l.getLast? == some 47) = b) ∧ Below w.heap.size w w' := by
  have c1 : ∀ nn, (w.drewN nn).cell? ⟨g, o + 255, none⟩ = some (.int .i64 (l.length : Int)) := fun nn => by rw [(hb.drewN nn).cell]; exact hp.sz
  have hn := hp.n255
  rcases List.eq_nil_or_concat l with rfl | ⟨r, x, rfl⟩
  · clear hb hp
    go_enter Try.func12, Try.ntmps12
    go_upto_region 1 with fail
    go_quiet (fail)
    go_wp2
    go_ret
    exact ⟨⟨false, rfl, rfl⟩, Drew.below ⟨nq, rfl⟩ _⟩
  · obtain ⟨m, hm⟩ : ∃ m, r.length = m := ⟨_, rfl⟩
    have c2 : ∀ nn, (w.drewN nn).cell? ⟨g, o + m, none⟩ = some (.int .u8 (x : Int)) := fun nn => by
      rw [(hb.drewN nn).cell]
      refine hp.raw m x ?_
      rw [List.concat_eq_append, List.getElem?_append_right (by omega), hm]
      simp
    have c3 : ∀ nn, (w.drewN nn).cell? ⟨g, o + 255, none⟩ = some (.int .i64 ((m : Int) + 1)) := fun nn => by
      rw [c1 nn, List.length_concat, hm]
      simp
    have dz : decide ((0 : Int) < (m : Int) + 1) = true := decide_eq_true (by omega)
    obtain ⟨bb, hbb⟩ : ∃ bb, ((x : Int) == 47) = bb := ⟨_, rfl⟩
    have Hbb : Hid (((r.concat x).getLast? == some 47) = bb) := hid (by
      rw [← hbb, Bool.eq_iff_iff]
      simp
      omega)
    have hm255 : (m : Int) < 255 := by rw [List.length_concat, hm] at hn; omega
    clear hb hp hn hm c1
    go_enter Try.func12, Try.ntmps12
    go_upto_region 1 with fail
    go_quiet (fail)
    go_wp2
    go_ret
    exact ⟨⟨bb, rfl, Hbb.out⟩, Drew.below ⟨nq, rfl⟩ _⟩
def bC (l : List Nat) : List Value := l.map fun (x : Nat) => .int .u8 (x : Int)
/-- Names with slashes between them. -/
def jn : List (List Nat) → List Nat
  | [] => []
  | n :: r => r.foldl (fun acc m => acc ++ 47 :: m) n
theorem jn_snoc (ns : List (List Nat)) (m : List Nat) : jn (ns ++ [m]) = if ns = [] then m else jn ns ++ 47 :: m := by
  cases ns with
  | nil => rfl
  | cons n r => rw [if_neg (by simp)]; simp [jn]
theorem jn_len : ∀ (k : Nat) (ns : List (List Nat)), ns.length = k → (∀ n ∈ ns, n.length ≤ 32) → (jn ns).length ≤ 33 * ns.length := by
  intro k
  induction k with
  | zero => intro ns h _; rw [List.eq_nil_of_length_eq_zero h]; simp [jn]
  | succ k ih =>
    intro ns h hm
    rcases List.eq_nil_or_concat ns with rfl | ⟨r, x, rfl⟩
    · simp [jn]
    · rw [List.concat_eq_append] at h hm ⊢
      rw [jn_snoc]
      have h1 := ih r (by simp at h; omega) (fun n hn => hm n (by simp [hn]))
      have h2 := hm x (by simp)
      split
      · simp; omega
      · simp; omega
def nmsL (L : Lvl) : List (List Nat) := (L.sp.drop L.nx).map fun s => sub L.l s.a s.b
/-- The names of the levels from k on, the top first. -/
def topN (lv : List Lvl) (k : Nat) : List (List Nat) := ((lv.drop k).reverse).flatMap nmsL
theorem topN_end (lv : List Lvl) : topN lv lv.length = [] := by simp [topN]
theorem topN_step (lv : List Lvl) {k : Nat} {L : Lvl} (h : lv[k]? = some L) : topN lv k = topN lv (k + 1) ++ nmsL L := by
  unfold topN
  have hlt := (List.getElem?_eq_some_iff.1 h).1
  have he := (List.getElem?_eq_some_iff.1 h).2
  rw [List.drop_eq_getElem_cons hlt, he, List.reverse_cons, List.flatMap_append]
  simp
def ndK (lv : List Lvl) (k : Nat) : Bool := match lv[k]? with
  | none => false
  | some L => (L.l.getLast? == some 47) || L.nd
/-- What AppendRest writes. -/
def restB (lv : List Lvl) : List Nat := jn (topN lv 0) ++ if ndK lv 0 && !(topN lv 0).isEmpty then [47] else []
def partN (lv : List Lvl) (j : Nat) (L : Lvl) (q : Nat) : List (List Nat) := topN lv (j + 1) ++ ((L.sp.drop L.nx).take (q - L.nx)).map fun s => sub L.l s.a s.b
theorem partN_0 (lv : List Lvl) (j : Nat) (L : Lvl) : partN lv j L L.nx = topN lv (j + 1) := by simp [partN]
theorem partN_end (lv : List Lvl) (j : Nat) (L : Lvl) (h : lv[j]? = some L) : partN lv j L L.sp.length = topN lv j := by
  rw [topN_step lv h]
  unfold partN nmsL
  rw [List.take_of_length_le (by simp)]
theorem partN_step (lv : List Lvl) (j : Nat) (L : Lvl) {q : Nat} {s : Sp} (hq : L.nx ≤ q) (hs : L.sp[q]? = some s) : partN lv j L (q + 1) = partN lv j L q ++ [sub L.l s.a s.b] := by
  unfold partN
  rw [show q + 1 - L.nx = (q - L.nx) + 1 by omega, List.take_add_one, List.getElem?_drop, show L.nx + (q - L.nx) = q by omega, hs, List.map_append, List.append_assoc]
  rfl
theorem slice_raw64 (ad : Addr) (i j : Nat) (hij : i ≤ j) (hj : j ≤ 255) (h0 : i < 255) (w : World) : (Instr.sliceAt 58 (.pointer (some ad)) (some (.int .i64 (i : Int))) (some (.int .i64 (j : Int))) none).run Try.prog w = .ok (.slice (some (ad.add i)) (j - i) (255 - i)) w := by
  have hal : Try.prog.arrayLen 58 = 255 := by kernel_rfl
  rw [run_sliceAt_array_lh w 58 ad (by kernel_rfl) .i64 .i64 (i : Int) (j : Int) (by omega) (by omega) (by rw [hal]; omega)]
  simp [slicedAt, hal, go_sem]
  omega
theorem info_u8 : ∃ i, Try.prog.info? 5 = some i ∧ i.zero = some (.int .u8 0) ∧ i.size = 1 ∧ i.bytes = 1 := by
  have h : (Try.prog.info? 5).map (fun i => (i.zero, i.size, i.bytes)) = some (some (.int .u8 0), 1, 1) := by kernel_rfl
  obtain ⟨i, hi, he⟩ := Option.map_eq_some_iff.1 h
  simp only [Prod.mk.injEq] at he
  exact ⟨i, hi, he.1, he.2.1, he.2.2⟩
def preB : Bool → List Nat → List Nat
  | true, _ => []
  | false, bs => bs ++ [47]
/-- The bytes appended so far. -/
structure As (w0 : World) (v : Value) (bs : List Nat) (w : World) : Prop where
  bel : Below w0.heap.size w0 w
  own : w.ownsRow w0.heap.size 5 1 v bs.length (bC bs)
theorem ownsRow_bel' {w w' : World} {base : Nat} {e : TypeId} {sz : Nat} {v : Value} {n : Nat} {xs : List Value} (h : w.ownsRow base e sz v n xs) (hb : Below w.heap.size w w') : w'.ownsRow base e sz v n xs := by
  refine ⟨h.1, ?_⟩
  rcases h.2 with h2 | ⟨g, cap, cur, h1, h2, hg, h3⟩
  · exact .inl h2
  · refine .inr ⟨g, cap, cur, h1, h2, ?_, h3⟩
    rw [hb.block g (Array.getElem?_eq_some_iff.1 hg).1]
    exact hg
theorem As.below {w0 w w' : World} {v : Value} {bs : List Nat} (h : As w0 v bs w) (hb : Below w.heap.size w w') : As w0 v bs w' := ⟨h.bel.trans (hb.mono h.bel.size), ownsRow_bel' h.own hb⟩
theorem bC_one (l : List Nat) : ∀ u ∈ bC l, u.oneCell' = true := by
  intro u hu
  unfold bC at hu
  rw [List.mem_map] at hu
  obtain ⟨x, _, rfl⟩ := hu
  rfl
theorem As.app {w0 w w' : World} {v v' : Value} {bs m : List Nat} (h : As w0 v bs w) (hb : Below w0.heap.size w w') (ho : w'.ownsRow w0.heap.size 5 1 v' (bs.length + m.length) (bC bs ++ bC m)) : As w0 v' (bs ++ m) w' :=
  ⟨h.bel.trans hb, by rw [List.length_append]; unfold bC at ho ⊢; rw [List.map_append]; exact ho⟩

set_option maxRecDepth 1000000 in
set_option maxHeartbeats 4000000 in
theorem rest_walk (g : Nat) (t : TypeId) (cs : List Value) (S : WS) (w : World) (hb : Blk w g t cs) (hk : WOk cs S) (h9 : S.lv.length ≤ 9) :
    Calls Try.prog 40 #[.pointer (some ⟨g, 0, none⟩), .slice none 0 0] w fun e w' => ∃ v, e = .returned v ∧ As w v (restB S.lv) w' := by
  have HB := hid hb
  have HK := hid hk
  obtain ⟨lv, hlv⟩ : ∃ lv, S.lv = lv := ⟨_, rfl⟩
  obtain ⟨D, hD⟩ : ∃ D, lv.length = D := ⟨_, rfl⟩
  have c1 : w.cell? ⟨g, 8091, none⟩ = some (.int .i64 (D : Int)) := by rw [← hD, ← hlv]; exact (hk.cells hb).1
  rw [hlv, hD] at h9
  have HLv : Hid (∀ k L, lv[k]? = some L → LvOk cs (k * 899) L) := hid (by rw [← hlv]; exact hk.lv)
  have HA0 : Hid (As w (.slice none 0 0) [] w) := hid ⟨Below.refl _ _, World.ownsRow_nil _ _ _ _⟩
  have HD := hid hD
  rw [hlv]
  clear hb hk hlv hD HK
  go_enter Try.func40, Try.ntmps40
  go_wp2_with fail
  go_loopw [1, 5, 6, 7] (fun v f nd i wr => ∃ k : Nat, k ≤ D ∧ i = .int .i64 ((k : Int) - 1) ∧ f = .bool (topN lv k).isEmpty ∧ nd = .bool (ndK lv k) ∧ (topN lv k).length ≤ 128 * (D - k) ∧ Hid (∀ n ∈ topN lv k, n.length ≤ 32) ∧ Hid (As w v (jn (topN lv k)) wr)) (fun _ _ _ i _ => (intOf i + 1).toNat)
  case atStart =>
    have hT : topN lv D = [] := by rw [← HD.out]; exact topN_end lv
    refine ⟨D, by omega, rfl, by rw [hT]; rfl, ?_, by rw [hT]; simp, hid (by rw [hT]; simp), by rw [hT]; exact HA0⟩
    unfold ndK
    rw [List.getElem?_eq_none (by rw [HD.out]; omega)]
  case round =>
    obtain ⟨k, hk, rfl, rfl, rfl, hlen, HSm, HA⟩ := hrel
    obtain ⟨i0, hi, hz0, hz1, hz2⟩ := info_u8
    have HI := hid (And.intro hi (And.intro hz0 (And.intro hz1 hz2)))
    clear hi hz0 hz1 hz2
    by_cases hk0 : k = 0
    · as_aux_lemma =>
      subst hk0
      have hjl := jn_len _ _ rfl HSm.out
      obtain ⟨em, hem⟩ : ∃ em, (topN lv 0).isEmpty = em := ⟨_, rfl⟩
      obtain ⟨nd, hnd⟩ : ∃ nd, ndK lv 0 = nd := ⟨_, rfl⟩
      obtain ⟨bs, hbs⟩ : ∃ bs, jn (topN lv 0) = bs := ⟨_, rfl⟩
      rw [hbs] at HA hjl
      have hbl : (bs.length + 1) * 1 ≤ 140737488355328 := by omega
      have HO7 := hid (HA.out.own.alloc (.cells #[.int .u8 47] 5))
      have hsz7 : w.heap.size ≤ (wr.alloc (.cells #[.int .u8 47] 5)).heap.size := by have := HA.out.bel.size; simp; omega
      have Hem := hid hem
      have Hnd := hid hnd
      have Hbs := hid hbs
      simp only [hem, hnd]
      clear hem hnd hbs hlen hjl
      cases nd with
      | false =>
        go_wp2
        go_ret
        refine ⟨_, rfl, ?_⟩
        unfold restB
        rw [Hnd.out, Bool.false_and, if_neg Bool.false_ne_true, List.append_nil, Hbs.out]
        exact HA.out
      | true =>
        cases em with
        | true =>
          go_wp2
          go_ret
          refine ⟨_, rfl, ?_⟩
          unfold restB
          rw [Hnd.out, Hem.out, Bool.true_and, Bool.not_true, if_neg Bool.false_ne_true, List.append_nil, Hbs.out]
          exact HA.out
        | false =>
          go_wp2_with (at_builtin; refine wpList_append_row _ rfl (.tmp 75) (.tmp 76) 26 rfl w.heap.size 5 i0 (.int .u8 0) 1 1 Try.underlying26 HI.out.1 HI.out.2.1 HI.out.2.2.1 HI.out.2.2.2 rfl (by decide) _ _ _ rfl HO7.out (some ⟨wr.heap.size, 0, none⟩) 1 1 [.int .u8 47] rfl rfl (fun h => by cases h) (newRow _ [.int .u8 47] _ _ rfl) (fun u hu => by simp at hu; subst hu; rfl) hbl (by decide) hsz7 ?_; intro v8 w8 hown8 hb8 hk8 hg8; have HOw8 := hid hown8; have HB8 := hid hb8; clear hown8 hb8 hk8 hg8)
          go_ret
          refine ⟨_, rfl, ?_⟩
          unfold restB
          rw [Hnd.out, Hem.out, Bool.true_and, Bool.not_false, if_pos rfl, Hbs.out]
          exact (HA.out.below (nbel wr _)).app (m := [47]) HB8.out HOw8.out
    obtain ⟨j, rfl⟩ : ∃ j, k = j + 1 := ⟨k - 1, by omega⟩
    have ei : (((j + 1 : Nat) : Int) - 1) = (j : Int) := by omega
    simp only [ei]
    clear ei hk0
    obtain ⟨L, hL⟩ : ∃ L, lv[j]? = some L := ⟨_, List.getElem?_eq_getElem (show j < lv.length by rw [HD.out]; omega)⟩
    have hlo := HLv.out j L hL
    have h128 := hlo.path.n128
    have hlt := hlo.lt
    have HLo := hid hlo
    have HL := hid hL
    have HBr := hid (HB.out.below HA.out.bel)
    have c2 : wr.cell? ⟨g, j * 899 + 897, none⟩ = some (.int .i64 (L.nx : Int)) := by rw [HBr.out.cell]; exact hlo.nx
    have i9 : (j : Int) < 9 := by omega
    have dj : decide ((0 : Int) ≤ (j : Int)) = true := decide_eq_true (by omega)
    have H0 : Hid (topN lv (j + 1) = partN lv j L L.nx) := hid (partN_0 lv j L).symm
    clear hlo hL
    go_wp2_with fail
    go_loopw [1, 5, 9] (fun v f i wr => ∃ q : Nat, L.nx ≤ q ∧ q ≤ L.sp.length ∧ i = .int .i64 q ∧ f = .bool (partN lv j L q).isEmpty ∧ (partN lv j L q).length ≤ 128 * (D - (j + 1)) + (q - L.nx) ∧ Hid (∀ n ∈ partN lv j L q, n.length ≤ 32) ∧ Hid (As w v (jn (partN lv j L q)) wr)) (fun _ _ i _ => L.sp.length - (intOf i).toNat)
    case atStart =>
      refine ⟨L.nx, by omega, by omega, rfl, by rw [← H0.out], by rw [← H0.out]; omega, hid (by rw [← H0.out]; exact HSm.out), by rw [← H0.out]; exact HA⟩
    case round =>
      clear HSm HA hlen c2 HBr
      obtain ⟨q, hq1, hq2, rfl, rfl, hlen, HSm, HA⟩ := hrel
      have HBr := hid (HB.out.below HA.out.bel)
      have HLn := hid (pathLen_walk g (j * 899) t cs L.l L.sp wr HBr.out HLo.out.path)
      by_cases hlt2 : q < L.sp.length
      rotate_left
      · as_aux_lemma =>
        have hqe : q = L.sp.length := by omega
        have HE : Hid (partN lv j L q = topN lv j) := hid (by rw [hqe]; exact partN_end lv j L HL.out)
        rw [HE.out] at hlen HSm HA
        simp only [HE.out]
        have dq : decide ((q : Int) < (L.sp.length : Int)) = false := decide_eq_false (by omega)
        have HNd := hid (pndir_walk g (j * 899) t cs L.l L.sp wr HBr.out HLo.out.path)
        obtain ⟨em, hem⟩ : ∃ em, (topN lv j).isEmpty = em := ⟨_, rfl⟩
        have Hem := hid hem
        simp only [hem]
        clear hem hqe
        go_wp2_with fail
        refine (HLn.out).mono ?_
        rintro e w5 ⟨rfl, rfl⟩
        clear HLn
        go_wp2_with fail
        refine (HNd.out).mono ?_
        rintro e w6 ⟨⟨b, rfl, hbv⟩, hb6⟩
        have HA6 := hid (HA.out.below hb6)
        have HB6 := hid (HBr.out.below hb6)
        obtain ⟨nd0, hnd0⟩ : ∃ nd0, L.nd = nd0 := ⟨_, rfl⟩
        have c3 : w6.cell? ⟨g, j * 899 + 898, none⟩ = some (.bool nd0) := by rw [HB6.out.cell, ← hnd0]; exact HLo.out.nd
        have HNK : Hid (ndK lv j = (b || nd0)) := hid (by unfold ndK; rw [HL.out]; show ((L.l.getLast? == some 47) || L.nd) = _; rw [hbv, hnd0])
        clear hb6 HNd hbv hnd0
        cases b with
        | true =>
          go_wp2
          exact ⟨⟨j, by omega, by go_num, by rw [Hem.out], by rw [HNK.out]; rfl, by omega, HSm, HA6⟩, by simp [intOf]⟩
        | false =>
          go_wp2
          exact ⟨⟨j, by omega, by go_num, by rw [Hem.out], by rw [HNK.out]; rfl, by omega, HSm, HA6⟩, by simp [intOf]⟩
      obtain ⟨s, hs⟩ : ∃ s, L.sp[q]? = some s := ⟨_, List.getElem?_eq_getElem hlt2⟩
      have hso := HLo.out.path.cp.ok s (List.mem_of_getElem? hs)
      have hn255 := HLo.out.path.n255
      have HP := hid (partN_step lv j L hq1 hs)
      have hab := hso.lt
      have hbl := hso.le
      have hsh := hso.sh
      have hsub : (sub L.l s.a s.b).length = s.b - s.a := sub_len hso.le
      have dq : decide ((q : Int) < (L.sp.length : Int)) = true := decide_eq_true (by omega)
      have Hs := hid hs
      have hjl := jn_len _ _ rfl HSm.out
      obtain ⟨ns, hns⟩ : ∃ ns, partN lv j L q = ns := ⟨_, rfl⟩
      rw [hns] at hlen HSm HA HP hjl
      obtain ⟨em, hem⟩ : ∃ em, ns.isEmpty = em := ⟨_, rfl⟩
      obtain ⟨bs, hbs⟩ : ∃ bs, jn ns = bs := ⟨_, rfl⟩
      rw [hbs] at HA hjl
      have Hem := hid hem
      have Hbs := hid hbs
      simp only [hns, hem]
      clear hs hso hns hem hbs
      go_wp2_with fail
      refine (HLn.out).mono ?_
      rintro e w5 ⟨rfl, rfl⟩
      clear HLn
      go_upto_if 39 with fail
      go_cut [1] from 38 to 42 (fun v wc => Hid (As w v (preB em bs) wc))
      case first =>
        as_aux_lemma =>
        cases em with
        | true =>
          have hb0 : bs = [] := by rw [← Hbs.out, List.isEmpty_iff.1 Hem.out]; rfl
          go_wp2_with fail
          go_meet
          case rel => exact hid (by have := HA.out; rw [hb0] at this; exact this)
        | false =>
          have hbl : (bs.length + 1) * 1 ≤ 140737488355328 := by omega
          have HO7 := hid (HA.out.own.alloc (.cells #[.int .u8 47] 5))
          have hsz7 : w.heap.size ≤ (w5.alloc (.cells #[.int .u8 47] 5)).heap.size := by have := HA.out.bel.size; simp; omega
          go_wp2_with (at_builtin; refine wpList_append_row _ rfl (.tmp 40) (.tmp 41) 26 rfl w.heap.size 5 i0 (.int .u8 0) 1 1 Try.underlying26 HI.out.1 HI.out.2.1 HI.out.2.2.1 HI.out.2.2.2 rfl (by decide) _ _ _ rfl HO7.out (some ⟨w5.heap.size, 0, none⟩) 1 1 [.int .u8 47] rfl rfl (fun h => by cases h) (newRow _ [.int .u8 47] _ _ rfl) (fun u hu => by simp at hu; subst hu; rfl) hbl (by decide) hsz7 ?_; intro v8 w8 hown8 hb8 hk8 hg8; have HOw8 := hid hown8; have HB8 := hid hb8; clear hown8 hb8 hk8 hg8)
          go_meet
          case rel => exact hid ((HA.out.below (nbel w5 _)).app (m := [47]) HB8.out HOw8.out)
      case rest =>
      as_aux_lemma =>
      have HAc := hcut
      have HBc := hid (HB.out.below HAc.out.bel)
      have HSp := hid (span_walk g (j * 899) t cs L.l L.sp wc HBc.out HLo.out.path q s Hs.out)
      clear hcut HA
      obtain ⟨pre, hpre⟩ : ∃ pre, preB em bs = pre := ⟨_, rfl⟩
      rw [hpre] at HAc
      have hpl : pre.length ≤ bs.length + 1 := by rw [← hpre]; unfold preB; cases em <;> simp
      have HEq : Hid (jn (ns ++ [sub L.l s.a s.b]) = pre ++ sub L.l s.a s.b) := hid (by
        rw [jn_snoc, Hbs.out, ← hpre]
        cases em with
        | true => rw [if_pos (List.isEmpty_iff.1 Hem.out)]; rfl
        | false => rw [if_neg (fun h => by rw [h] at Hem; exact absurd Hem.out (by simp))]; simp [preB])
      obtain ⟨nj, hnj⟩ : ∃ nj, sub L.l s.a s.b = nj := ⟨_, rfl⟩
      have HSl : ∀ w', (Instr.sliceAt 58 (.pointer (some ⟨g, j * 899, none⟩)) (some (.int .i64 (s.a : Int))) (some (.int .i64 (s.b : Int))) none).run Try.prog w' = .ok (.slice (some ⟨g, j * 899 + s.a, none⟩) (s.b - s.a) (255 - s.a)) w' := fun w' => by
        have := slice_raw64 ⟨g, j * 899, none⟩ s.a s.b (by omega) (by omega) (by omega) w'
        rw [show (⟨g, j * 899, none⟩ : Addr).add s.a = ⟨g, j * 899 + s.a, none⟩ by unfold Addr.add; split <;> simp_all] at this
        exact this
      rw [hnj] at HP HEq hsub
      have Hnj := hid hnj
      clear hpre hnj
      go_wp2_with fail
      refine (HSp.out).mono ?_
      rintro e w6 ⟨rfl, hb6⟩
      have HA6 := hid (HAc.out.below hb6)
      have HB6 := hid (HBc.out.below hb6)
      have HNew : Hid (∀ ad, some (⟨g, j * 899 + s.a, none⟩ : Addr) = some ad → ∀ i u, (bC nj)[i]? = some u → w6.cell? (ad.add i) = some u) := hid (by
        intro ad had i u hu
        cases had
        have e : (⟨g, j * 899 + s.a, none⟩ : Addr).add i = ⟨g, j * 899 + s.a + i, none⟩ := by unfold Addr.add; split <;> simp_all
        rw [e, HB6.out.cell]
        unfold bC at hu
        rw [List.getElem?_map, Option.map_eq_some_iff] at hu
        obtain ⟨x, hx, rfl⟩ := hu
        rw [← Hnj.out] at hx
        have hx2 : L.l[s.a + i]? = some x := by
          unfold sub at hx
          have hi := (List.getElem?_eq_some_iff.1 hx).1
          rw [List.getElem?_take] at hx
          split at hx
          · rw [List.getElem?_drop] at hx; exact hx
          · cases hx
        have := HLo.out.path.raw _ _ hx2
        rw [show j * 899 + s.a + i = j * 899 + (s.a + i) by omega]
        exact this)
      have hbsz : w.heap.size ≤ w6.heap.size := HA6.out.bel.size
      have hbcl : (bC nj).length = (s.b - s.a) * 1 := by unfold bC; rw [List.length_map, hsub]; omega
      have hbb : (pre.length + (s.b - s.a)) * 1 ≤ 140737488355328 := by omega
      clear hb6 HSp HAc HBc
      go_wp2_with (at_builtin; refine wpList_append_row _ rfl (.tmp 51) (.tmp 58) 26 rfl w.heap.size 5 i0 (.int .u8 0) 1 1 Try.underlying26 HI.out.1 HI.out.2.1 HI.out.2.2.1 HI.out.2.2.2 rfl (by decide) _ _ _ rfl HA6.out.own (some ⟨g, j * 899 + s.a, none⟩) (s.b - s.a) (255 - s.a) (bC nj) rfl hbcl (fun h => by cases h) HNew.out (bC_one nj) hbb (by decide) hbsz ?_; intro v8 w8 hown8 hb8 hk8 hg8; have HOw8 := hid hown8; have HB8 := hid hb8; clear hown8 hb8 hk8 hg8)
      have HA8 : Hid (As w v8 (jn (ns ++ [nj])) w8) := hid (by
        rw [HEq.out]
        refine HA6.out.app (m := nj) HB8.out ?_
        rw [hsub]
        exact HOw8.out)
      have hne : (partN lv j L (q + 1)).isEmpty = false := by rw [HP.out]; simp
      exact ⟨⟨q + 1, by omega, by omega, by go_num, by rw [hne], by rw [HP.out]; simp; omega, hid (by
        rw [HP.out]
        intro n hn
        rcases List.mem_append.1 hn with h | h
        · exact HSm.out n h
        · simp at h
          subst h
          omega), by rw [HP.out]; exact HA8⟩, by simp [intOf]; omega⟩
end Go.Proofs.Qxb6500891a
