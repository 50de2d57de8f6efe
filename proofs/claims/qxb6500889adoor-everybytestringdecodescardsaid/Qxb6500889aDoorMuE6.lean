/- Scripts as bytes: Encode. -/
import Derived.Test.Qxb6500889aDoorMuE5
import Derived.Test.Qxb6500889aDoorMuOp
namespace Go.Proofs.Qxb6500889aDoor
open Go.RowKit
set_option linter.unusedSimpArgs false
set_option linter.unusedVariables false
theorem enc_snoc {s : List OpP} {i : Nat} {o : OpP} (h : s[i]? = some o) : enc (s.take (i + 1)) = enc (s.take i) ++ en1 o := by
  unfold enc
  rw [List.take_add_one, h, List.flatMap_append]
  simp
theorem take_snoc3 {x y z j u : Nat} (h : [x, y, z][j]? = some u) : ([x, y, z].take (j + 1)).flatMap enA = ([x, y, z].take j).flatMap enA ++ enA u := by
  rw [List.take_add_one, h, List.flatMap_append]
  simp
section
variable {w : World} {a : Option Addr} {n c : Nat} {s : List OpP}
set_option maxRecDepth 1000000 in
set_option maxHeartbeats 8000000 in
theorem encode_walk (hs : Script w a n c s) (hg : ArG w) (hn : n ≤ 1000000000) : Calls Tryd.prog 16 #[.slice a n c] w fun e w' => ∃ v, e = .returned v ∧ EO w w' v (enc s) := by
  have HS := hid hs
  have HG := hid hg
  have Hlen : Hid (s.length = n) := hid hs.1.len
  have H0 : Hid (EO w w (.slice none 0 0) (enc (s.take 0))) := hid ⟨Below.refl _ _, ⟨rfl, .inl ⟨rfl, rfl⟩⟩⟩
  clear hs hg
  go_enter Tryd.func16, Tryd.ntmps16
  go_wp2_with fail
  go_loopw [3, 12] (fun v v2 wr => ∃ i : Nat, i ≤ n ∧ v2 = .int .i64 (i : Int) ∧ Hid (EO w wr v (enc (s.take i)))) (fun _ v2 _ => n - (intOf v2).toNat)
  case atStart => exact ⟨0, by omega, rfl, H0⟩
  case round =>
  clear H0
  obtain ⟨i, hi, rfl, HE⟩ := hrel
  by_cases hin : i < n
  rotate_left
  · as_aux_lemma =>
    have di : decide ((i : Int) < (n : Int)) = false := decide_eq_false (by omega)
    have di2 : decide (i < n) = false := decide_eq_false hin
    have HF : Hid (EO w wr u3 (enc s)) := hid (by have := HE.out; rw [List.take_of_length_le (by rw [Hlen.out]; omega)] at this; exact this)
    go_wp2
    go_ret
    exact ⟨_, rfl, HF.out⟩
  have di : decide ((i : Int) < (n : Int)) = true := decide_eq_true (by omega)
  have hii : (i : Int) < (n : Int) := by omega
  obtain ⟨o, ho, hok, b, off, rfl, hb, c0, c1, c2, c3, c4⟩ := (HS.out.below HE.out.bel).at hin
  have HOk := hid hok
  have Hsn : Hid (enc (s.take (i + 1)) = enc (s.take i) ++ en1 o) := hid (enc_snoc ho)
  obtain ⟨l, hl⟩ : ∃ l, enc (s.take i) = l := ⟨_, rfl⟩
  have Hll : Hid (l.length ≤ 29000000000) := hid (by
    have h1 := enc_len (s.take i)
    rw [hl, List.length_take] at h1
    omega)
  rw [hl] at HE Hsn
  obtain ⟨ob, hob⟩ : ∃ x, wr.heap.size = x := ⟨_, rfl⟩
  clear ho hok hl
  go_upto_region 5 with fail
  obtain ⟨w5, hw5⟩ : ∃ x, wr.alloc (.cells #[.int .u8 (o.ac : Int), .int .u8 (o.k : Int), .int .u64 (o.a : Int), .int .u64 (o.b : Int), .int .u64 (o.c : Int)] 31) = x := ⟨_, rfl⟩
  have hB5 : Below wr.heap.size wr w5 := by rw [← hw5]; exact nbel _ _
  have HE5 := hid (HE.out.below hB5)
  have HO5 : Hid (Blk w5 ob 31 (opC o) ∧ u3.ownBlock ≠ some ob) := hid ⟨by rw [← hw5, ← hob]; exact Blk.new wr (opC o) _, HE.out.new ob (by rw [hob]; exact Nat.le_refl _)⟩
  simp only [hw5]
  clear hw5 hob c0 c1 c2 c3 c4 hB5 HE hb
  obtain ⟨ac, hac⟩ : ∃ x, o.ac % 7 = x := ⟨_, rfl⟩
  have hoc := HOk.out.ac
  have ta : (o.ac : Int).tmod 7 = (ac : Int) := by rw [Int.tmod_eq_emod_of_nonneg (by omega), ← hac]; omega
  have hac7 : ac < 7 := by omega
  have iac : (ac : Int) < 7 := by omega
  have c0 : w5.cell? ⟨ob, 0, none⟩ = some (.int .u8 (o.ac : Int)) := HO5.out.1.cell 0
  have Hen : Hid (en1 o = ac :: (if ac < 4 then (o.k % 9) :: ([o.a, o.b, o.c].take (ari (o.k % 9))).flatMap enA else [])) := hid (by unfold en1; rw [hac])
  obtain ⟨sg, hsg⟩ : ∃ y, w5.heap.size = y := ⟨_, rfl⟩
  obtain ⟨w6, hw6⟩ : ∃ y, w5.alloc (.cells #[.int .u8 (ac : Int)] 5) = y := ⟨_, rfl⟩
  have hB6 : Below w5.heap.size w5 w6 := by rw [← hw6]; exact nbel _ _
  have HE6 := hid (HE5.out.below hB6)
  have HK6 : Hid (Blk w6 sg 5 (aK .u8 [ac])) := hid (by rw [← hw6, ← hsg]; exact Blk.new w5 _ _)
  have HO6 : Hid (Blk w6 ob 31 (opC o) ∧ u3.ownBlock ≠ some ob) := hid ⟨HO5.out.1.below hB6, HO5.out.2⟩
  clear hB6 hac HE5 HO5
  go_upto_region 7 with (at_builtin; refine wpList_app_eo rfl (.tmp 19) (.tmp 21) rfl rfl HE6.out [ac] (by have := Hll.out; simp only [List.length_cons, List.length_nil]; omega) sg 1 rfl rfl HK6.out ?_; intro v7 w7 hE7 hF7; have HE7 := hid hE7; have HO7 := hid (hF7.keep HO6.out.1 HO6.out.2); clear hE7 hF7)
  clear hw6 hsg HE6 HK6 HO6 ta c0
  by_cases h4 : ac < 4
  rotate_left
  · as_aux_lemma =>
    have d4 : decide (4 ≤ (ac : Int)) = true := decide_eq_true (by omega)
    have HF : Hid (EO w w7 v7 (enc (s.take (i + 1)))) := hid (by rw [Hsn.out, Hen.out, if_neg h4]; exact HE7.out)
    clear HE7 HO7
    go_wp2
    exact ⟨⟨i + 1, by omega, by go_num, HF⟩, by simp [intOf]; omega⟩
  have d4 : decide (4 ≤ (ac : Int)) = false := decide_eq_false (by omega)
  rw [if_pos h4] at Hen
  obtain ⟨kd, hkd⟩ : ∃ x, o.k % 9 = x := ⟨_, rfl⟩
  have hokk := HOk.out.k
  have tk : (o.k : Int).tmod 9 = (kd : Int) := by rw [Int.tmod_eq_emod_of_nonneg (by omega), ← hkd]; omega
  have hk9 : kd < 9 := by omega
  have ik9 : (kd : Int) < 9 := by omega
  rw [hkd] at Hen
  have c1 : w7.cell? ⟨ob, 1, none⟩ = some (.int .u8 (o.k : Int)) := HO7.out.1.cell 1
  obtain ⟨sg, hsg⟩ : ∃ y, w7.heap.size = y := ⟨_, rfl⟩
  obtain ⟨w8, hw8⟩ : ∃ y, w7.alloc (.cells #[.int .u8 (kd : Int)] 5) = y := ⟨_, rfl⟩
  have hB8 : Below w7.heap.size w7 w8 := by rw [← hw8]; exact nbel _ _
  have HE8 := hid (HE7.out.below hB8)
  have HK8 : Hid (Blk w8 sg 5 (aK .u8 [kd])) := hid (by rw [← hw8, ← hsg]; exact Blk.new w7 _ _)
  have HO8 : Hid (Blk w8 ob 31 (opC o) ∧ v7.ownBlock ≠ some ob) := hid ⟨HO7.out.1.below hB8, HO7.out.2⟩
  have Hll2 : Hid ((l ++ [ac]).length ≤ 29000000001) := hid (by have := Hll.out; rw [List.length_append]; simp only [List.length_cons, List.length_nil]; omega)
  clear hB8 hkd HE7 HO7
  go_upto_region 10 with (at_builtin; refine wpList_app_eo rfl (.tmp 28) (.tmp 30) rfl rfl HE8.out [kd] (by have := Hll2.out; simp only [List.length_cons, List.length_nil]; omega) sg 1 rfl rfl HK8.out ?_; intro v9 w9 hE9 hF9; have HE9 := hid hE9; have HO9 := hid (hF9.keep HO8.out.1 HO8.out.2); clear hE9 hF9)
  clear hw8 hsg HE8 HK8 HO8 tk c1
  have har := ari_le kd
  have Hcg : Hid (∀ wy, Below w.heap.size w wy → wy.cell? ⟨1, kd, none⟩ = some (.int .i64 (ari kd : Int))) := hid (fun wy hy => (HG.out.below hy).c kd hk9)
  obtain ⟨ai, hai⟩ : ∃ x, ari kd = x := ⟨_, rfl⟩
  rw [hai] at har Hcg Hen
  have iai : (ai : Int) ≤ 3 := by omega
  clear hai
  refine wp_region_tree (fun wy => Blk wy ob 31 (opC o) ∧ wy.cell? ⟨1, kd, none⟩ = some (.int .i64 (ai : Int))) 13 [0, 1, 2, 3, 4, 5, 7, 8, 9, 12] (.one 6 (.lit [10, 11] .leaf)) rfl (by kernel_rfl) (by kernel_rfl) (fun d _ _ _ _ h => by cases d <;> exact h) ⟨HO9.out.1.drew ⟨1, rfl⟩, Hcg.out _ (HE9.out.bel.trans ((Drew.below ⟨1, rfl⟩ _).mono HE9.out.bel.size))⟩ ?_
  apply Exists.intro
  refine ⟨?_, ?_⟩
  · intro W hW
    have s2 : ∀ x, (W x).cell? ⟨ob, 2, none⟩ = some (.int .u64 (o.a : Int)) := fun x => (hW x).1.cell 2
    have s3 : ∀ x, (W x).cell? ⟨ob, 3, none⟩ = some (.int .u64 (o.b : Int)) := fun x => (hW x).1.cell 3
    have s4 : ∀ x, (W x).cell? ⟨ob, 4, none⟩ = some (.int .u64 (o.c : Int)) := fun x => (hW x).1.cell 4
    have sg := fun x => (hW x).2
    clear hW
    simp only [List.take, opsAt, List.drop, List.cons_append, List.nil_append]
    repeat (go_big_quiet_step (fail))
    exact rfl
  have HE10 : Hid (EO w w9.drew v9 ((l ++ [ac]) ++ [kd]) ∧ Blk w9.drew ob 31 (opC o)) := hid ⟨HE9.out.below (Drew.below ⟨1, rfl⟩ _), HO9.out.1.drew ⟨1, rfl⟩⟩
  generalize w9.drew = w10 at HE10 ⊢
  clear HE9 HO9
  simp only [wpTr, opsAt, List.take, List.drop, List.cons_append, List.nil_append]
  obtain ⟨xg, hxg⟩ : ∃ y, w10.heap.size = y := ⟨_, rfl⟩
  obtain ⟨w11, hw11⟩ : ∃ y, w10.alloc (.cells #[.int .u64 (o.a : Int), .int .u64 (o.b : Int), .int .u64 (o.c : Int)] 29) = y := ⟨_, rfl⟩
  have hB11 : Below w10.heap.size w10 w11 := by rw [← hw11]; exact nbel _ _
  have HE11 : Hid (EO w w11 v9 ((l ++ [ac]) ++ [kd]) ∧ Blk w11 ob 31 (opC o) ∧ Blk w11 xg 29 (aK .u64 [o.a, o.b, o.c]) ∧ v9.ownBlock ≠ some xg) := hid ⟨HE10.out.1.below hB11, HE10.out.2.below hB11, by rw [← hw11, ← hxg]; exact Blk.new w10 _ _, HE10.out.1.new xg (by rw [hxg]; exact Nat.le_refl _)⟩
  clear hB11
  go_wp2_with fail
  refine ⟨⟨HE11.out.2.1, Hcg.out _ HE11.out.1.bel⟩, ?_⟩
  clear hw11 hxg HE10
  apply Exists.intro
  refine ⟨?_, ?_⟩
  · intro W hW
    clear hW
    repeat (go_big_quiet_step (fail))
    exact rfl
  simp only [wpTr, QN]
  have Hen2 : Hid (enc (s.take (i + 1)) = ((l ++ [ac]) ++ [kd]) ++ ([o.a, o.b, o.c].take ai).flatMap enA) := hid (by rw [Hsn.out, Hen.out]; simp)
  have Hll3 : Hid (((l ++ [ac]) ++ [kd]).length ≤ 29000000002) := hid (by have := Hll2.out; rw [List.length_append]; simp only [List.length_cons, List.length_nil]; omega)
  generalize (l ++ [ac]) ++ [kd] = l2 at HE11 Hen2 Hll3
  clear Hsn Hen Hll Hll2 Hcg
  go_wp2_with fail
  go_loopw [3, 44] (fun v v2 wr => ∃ j : Nat, j ≤ ai ∧ v2 = .int .i64 (j : Int) ∧ Hid (EO w wr v (l2 ++ ([o.a, o.b, o.c].take j).flatMap enA) ∧ Blk wr xg 29 (aK .u64 [o.a, o.b, o.c]) ∧ v.ownBlock ≠ some xg)) (fun _ v2 _ => ai - (intOf v2).toNat)
  case atStart => exact ⟨0, by omega, rfl, hid ⟨by have := HE11.out.1; simpa using this, HE11.out.2.2.1, HE11.out.2.2.2⟩⟩
  case round =>
  clear HE11
  obtain ⟨j, hj, rfl, HI⟩ := hrel
  by_cases hja : j < ai
  rotate_left
  · as_aux_lemma =>
    have dj : decide ((j : Int) < (ai : Int)) = false := decide_eq_false (by omega)
    have dj2 : decide (j < ai) = false := decide_eq_false hja
    have e : j = ai := by omega
    subst e
    have HF := hid HI.out.1
    rw [← Hen2.out] at HF
    clear HI Hen2
    go_wp2
    exact ⟨⟨i + 1, by omega, by go_num, HF⟩, by simp [intOf]; omega⟩
  have dj : decide ((j : Int) < (ai : Int)) = true := decide_eq_true (by omega)
  have ij : (j : Int) < (ai : Int) := by omega
  obtain ⟨x, hx⟩ : ∃ x, [o.a, o.b, o.c][j]? = some x := ⟨_, List.getElem?_eq_getElem (by show j < 3; omega)⟩
  have hxl : x < 18446744073709551616 := by
    have hm := List.mem_of_getElem? hx
    simp only [List.mem_cons, List.not_mem_nil, or_false] at hm
    rcases hm with rfl | rfl | rfl
    · exact HOk.out.a
    · exact HOk.out.b
    · exact HOk.out.c
  have cx : wr.cell? ⟨xg, j, none⟩ = some (.int .u64 (x : Int)) := by
    rw [HI.out.2.1.cell j]
    unfold aK
    rw [List.getElem?_map, hx]
    rfl
  have Hsn2 := hid (take_snoc3 hx)
  have Hl4 : Hid ((l2 ++ ([o.a, o.b, o.c].take j).flatMap enA).length ≤ 900000000000) := hid (by
    have h1 := Hll3.out
    rw [List.length_append]
    have h2 : (([o.a, o.b, o.c].take j).flatMap enA).length ≤ ([o.a, o.b, o.c].take j).length * 9 := by
      generalize [o.a, o.b, o.c].take j = q
      induction q with
      | nil => simp
      | cons y q ih => rw [List.flatMap_cons, List.length_append, List.length_cons]; have := enA_len y; omega
    rw [take_len (by omega : j ≤ 3)] at h2
    omega)
  have HA := hid (appendArgument_walk HI.out.1 x hxl Hl4.out)
  clear hx
  go_wp2_with fail
  refine HA.out.mono ?_
  rintro e w12 ⟨v12, rfl, hE12, hF12⟩
  have HQ : Hid (EO w w12 v12 (l2 ++ ([o.a, o.b, o.c].take (j + 1)).flatMap enA) ∧ Blk w12 xg 29 (aK .u64 [o.a, o.b, o.c]) ∧ v12.ownBlock ≠ some xg) := hid ⟨by rw [Hsn2.out, ← List.append_assoc]; exact hE12, hF12.keep HI.out.2.1 HI.out.2.2⟩
  clear hE12 hF12 HA HI cx
  go_wp2
  exact ⟨⟨j + 1, by omega, by go_num, HQ⟩, by simp [intOf]; omega⟩
end
end Go.Proofs.Qxb6500889aDoor
