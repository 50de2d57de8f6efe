/- BadAddressesAreRefused: bad addresses, plainly; refusedAs. -/
import Derived.Test.Qxb6500887aGreatDoorAzRa
import Derived.Deep.DeepCutAuto
import Derived.Great.BuildSlice
namespace Go.Proofs.Qxb6500887aGreatDoor
open Go.RowKit
set_option linter.unusedSimpArgs false
set_option linter.unusedVariables false
def wordKs : List Nat := [0, 1, 2, 3, 42, 43, 18, 19, 20, 21, 46, 62]
def objKs : List Nat := [6, 7, 8, 9, 10, 11, 12, 13, 14, 15, 44, 45, 47, 16, 17, 23, 24, 25, 29, 30]
section
variable {S S' : AS} {x b c : Int} {rs : List Value}
theorem onC_bad2 (h : wantO x ≠ 0) : onC S x = wantO x := if_neg h
theorem PlR.bad {k : Nat} {cd v : Int} (h : PlR S k x b c rs S') (e : plW S k x b c = some (cd, v, S)) (h0 : cd ≠ 0) : rs = rsC cd 0 0 ∧ S' = S := by
  obtain ⟨h1, h2⟩ := h.1 _ e
  exact ⟨by rw [h1]; exact rsG_bad h0, h2⟩
theorem bad_word (hx : ¬ InH x) : ∀ k ∈ wordKs, ∀ rs S', PlR S k x b c rs S' → rs = rsC 1 0 0 ∧ S' = S := by
  have hw : wantW x = 1 := by unfold wantW; rw [if_neg hx]
  have hw0 : ¬ wantW x = 0 := by rw [hw]; decide
  have hr : ∀ n, wrCd x n = 1 := fun n => by unfold wrCd; rw [if_neg hx]
  have hr0 : ∀ n, ¬ wrCd x n = 0 := fun n => by rw [hr n]; decide
  intro k hk rs S' h
  simp only [wordKs, List.mem_cons, List.not_mem_nil, or_false] at hk
  rcases hk with rfl | rfl | rfl | rfl | rfl | rfl | rfl | rfl | rfl | rfl | rfl | rfl
  · obtain ⟨h1, h2⟩ := h.2 rfl; exact ⟨h2.1 (by decide) hx, h1⟩
  · exact h.bad (v := 0) (by show some _ = some _; unfold storeA; rw [if_neg hx]) (by decide)
  · exact h.bad (v := 0) (by show some _ = some _; unfold zeroA; rw [if_neg (hr0 _), hr]) (by decide)
  · obtain ⟨h1, h2⟩ := h.2 rfl; exact ⟨h2.1 (by decide) hx, h1⟩
  · obtain ⟨h1, h2⟩ := h.2 rfl; exact ⟨h2.1 (by decide) hx, h1⟩
  · exact h.bad (v := 0) (by show some _ = some _; unfold setRefAtA; rw [if_neg hx]) (by decide)
  · obtain ⟨h1, h2⟩ := h.2 rfl; exact ⟨h2.1 (by decide) hx, h1⟩
  · exact h.bad (v := 0) (by show some _ = some _; unfold setLoggedA; rw [if_neg hw0, hw]) (by decide)
  · have e : plW S 20 x b c = some (1, 0, S) := by show some _ = some _; unfold tasLoggedA; rw [if_neg hw0, if_neg hw0, hw]; rfl
    exact h.bad e (by decide)
  · exact h.bad (v := 0) (by show some _ = some _; unfold fillLoggedA; rw [if_neg (hr0 _), hr]) (by decide)
  · obtain ⟨h1, h2⟩ := h.2 rfl; exact ⟨h2.1 (by decide) hx, h1⟩
  · obtain ⟨h1, h2⟩ := h.2 rfl; exact ⟨h2.1 (by decide) hx, h1⟩
theorem bad_obj (hx : wantO x ≠ 0) : ∀ k ∈ objKs, ∀ rs S', PlR S k x b c rs S' → rs = rsC (wantO x) 0 0 ∧ S' = S := by
  have hon : onC S x = wantO x := onC_bad2 hx
  have hon0 : ¬ onC S x = 0 := by rw [hon]; exact hx
  have hex : ∀ n, exC x n = wantO x := fun n => if_neg hx
  have hex0 : ∀ n, ¬ exC x n = 0 := fun n => by rw [hex]; exact hx
  intro k hk rs S' h
  simp only [objKs, List.mem_cons, List.not_mem_nil, or_false] at hk
  rcases hk with rfl | rfl | rfl | rfl | rfl | rfl | rfl | rfl | rfl | rfl | rfl | rfl | rfl | rfl | rfl | rfl | rfl | rfl | rfl | rfl
  · exact h.bad (v := 0) (by show some _ = some _; unfold formatA; rw [if_neg hx]) hx
  · obtain ⟨h1, h2⟩ := h.2 rfl; exact ⟨h2.2 (by decide) hx, h1⟩
  · exact h.bad (v := 0) (by show some _ = some _; unfold eraseA; rw [if_neg hon0, hon]) hx
  · obtain ⟨h1, h2⟩ := h.2 rfl; exact ⟨h2.2 (by decide) hx, h1⟩
  · obtain ⟨h1, h2⟩ := h.2 rfl; exact ⟨h2.2 (by decide) hx, h1⟩
  · obtain ⟨h1, h2⟩ := h.2 rfl; exact ⟨h2.2 (by decide) hx, h1⟩
  · exact h.bad (v := 0) (by show some _ = some _; unfold arStoreRefA; rw [if_neg hon0, hon]) hx
  · obtain ⟨h1, h2⟩ := h.2 rfl; exact ⟨h2.2 (by decide) hx, h1⟩
  · exact h.bad (v := 0) (by show some _ = some _; unfold arStoreDataA; rw [if_neg hon0, hon]) hx
  · obtain ⟨h1, h2⟩ := h.2 rfl; exact ⟨h2.2 (by decide) hx, h1⟩
  · obtain ⟨h1, h2⟩ := h.2 rfl; exact ⟨h2.2 (by decide) hx, h1⟩
  · obtain ⟨h1, h2⟩ := h.2 rfl; exact ⟨h2.2 (by decide) hx, h1⟩
  · obtain ⟨h1, h2⟩ := h.2 rfl; exact ⟨h2.2 (by decide) hx, h1⟩
  · obtain ⟨h1, h2⟩ := h.2 rfl; exact ⟨h2.2 (by decide) hx, h1⟩
  · exact h.bad (v := 0) (by show some _ = some _; unfold setCountA; rw [if_neg hx]) hx
  · obtain ⟨h1, h2⟩ := h.2 rfl; exact ⟨h2.2 (by decide) hx, h1⟩
  · exact h.bad (v := 0) (by show some _ = some _; unfold setMarkedA; rw [if_neg hx]) hx
  · have e : plW S 25 x b c = some (wantO x, 0, S) := by show some _ = some _; unfold tasMarkedA; rw [if_neg hx, if_neg hx]; rfl
    exact h.bad e hx
  · exact h.bad (v := 0) (by show some _ = some _; unfold occA; rw [if_neg (hex0 _), hex]) hx
  · exact h.bad (v := 0) (by show some _ = some _; unfold vacA; rw [if_neg (hex0 _), hex]) hx
end
/-- A listed variable: a row of kinds. -/
structure KRow (g : Nat) (ks : List Nat) (W : World) (gb go gc : Nat) : Prop where
  gl : g < W.heap.size
  bl : gb < W.heap.size
  var : W.cell? ⟨g, 0, none⟩ = some (.slice (some ⟨gb, go, none⟩) ks.length gc)
  el : ∀ (i : Nat) (k : Nat), ks[i]? = some k → W.cell? ⟨gb, go + i, none⟩ = some (.int .u8 (k : Int))
theorem KRow.below {g : Nat} {ks : List Nat} {W W' : World} {gb go gc : Nat} (h : KRow g ks W gb go gc) (hb : Below W.heap.size W W') : KRow g ks W' gb go gc := by
  have h1 := hb.size
  refine ⟨by have := h.gl; omega, by have := h.bl; omega, ?_, fun i k hk => ?_⟩
  · rw [← h.var]; exact hb.cell h.gl
  · rw [← h.el i k hk]; exact hb.cell h.bl
section
variable {w0 w w' : World} {l : AL} {S : AS} {xs ys : List (AL × AS)} {bl : List (Nat × TypeId × List Value)}
set_option maxRecDepth 100000 in
set_option maxHeartbeats 2000000 in
theorem refusedAsZ {g : Nat} {ks : List Nat} {gb go gc : Nat} (h : LN w0 (xs ++ (l, S) :: ys) bl w) (hK : KRow g ks w0 gb go gc) (hks : ks.length ≤ 100) (hk8 : ∀ k ∈ ks, k < 256) (x kd a b c want : Int) (hx : U64 x) (hb : U64 b) (hc : U64 c)
    (hbad : ∀ k ∈ ks, ∀ rs S', PlR S k x b c rs S' → rs = rsC want 0 0 ∧ S' = S) :
    Calls Tryz.prog 8 #[.pointer (some ⟨l.a, 0, none⟩), .slice (some ⟨gb, go, none⟩) ks.length gc, .int .u64 x, .agg #[.int .u8 kd, .int .u64 a, .int .u64 b, .int .u64 c], .int .u8 want] w fun e w' => e = .returned (.bool true) ∧ Hid (LN w0 (xs ++ (l, S) :: ys) bl w' ∧ UL l.wr w w') := by
  obtain ⟨p, hp⟩ : ∃ p, w.heap.size = p := ⟨_, rfl⟩
  have H0 : Hid (LN w0 (xs ++ (l, S) :: ys) (bl ++ [(p, 29, [.int .u8 kd, .int .u64 a, .int .u64 b, .int .u64 c])]) (w.alloc (.cells #[.int .u8 kd, .int .u64 a, .int .u64 b, .int .u64 c] 29)) ∧ UL l.wr w (w.alloc (.cells #[.int .u8 kd, .int .u64 a, .int .u64 b, .int .u64 c] 29))) := hid ⟨h.new hp (by decide), UL.ofBelow (nbel _ _)⟩
  have HK := hid hK
  have HB := hid hbad
  have Hx := hid hx
  have Hb := hid hb
  have Hc := hid hc
  have H8 := hid hk8
  obtain ⟨m, hm⟩ : ∃ m, ks.length = m := ⟨_, rfl⟩
  have hm2 : m ≤ 100 := by omega
  rw [hm]
  have Hm := hid hm
  have HRf := hid (fun wz => refuse_walk want wz)
  clear h hK hbad hx hb hc hk8 hm hks
  go_enter Tryz.func8, Tryz.ntmps8
  go_upto_region 1 with fail
  (try simp only [hp])
  generalize hwa : World.alloc w _ = wa at H0 ⊢
  clear hwa hp
  go_wp2_with fail
  go_loopw [15] (fun u wr => ∃ (i : Nat), u = .int .i64 (i : Int) ∧ i ≤ m ∧ Hid (LN w0 (xs ++ (l, S) :: ys) (bl ++ [(p, 29, [.int .u8 kd, .int .u64 a, .int .u64 b, .int .u64 c])]) wr ∧ UL l.wr w wr)) (fun u _ => m - (intOf u).toNat)
  case atStart => exact ⟨0, rfl, Nat.zero_le _, H0⟩
  case round =>
  clear H0
  obtain ⟨i, rfl, hi, HX⟩ := hrel
  have H1 := hid HX.out.1
  have HU := hid HX.out.2
  clear HX
  by_cases hlt : i < m
  rotate_left
  · have hie : i = m := by omega
    subst hie
    have HF : Hid (LN w0 (xs ++ (l, S) :: ys) bl wr ∧ UL l.wr w wr) := hid ⟨H1.out.drop (fun x hx => List.mem_append_left _ hx), HU.out⟩
    clear H1
    go_wp2
    go_ret
    exact ⟨rfl, HF⟩
  obtain ⟨kk, hkk⟩ : ∃ k, ks[i]? = some k := ⟨_, List.getElem?_eq_getElem (by rw [Hm.out]; exact hlt)⟩
  have hmem := List.mem_of_getElem? hkk
  have ce : wr.cell? ⟨gb, go + i, none⟩ = some (.int .u8 (kk : Int)) := (HK.out.below H1.out.bel).el i kk hkk
  have hkk8 := H8.out kk hmem
  have hblk := H1.out.bk (p, 29, [.int .u8 kd, .int .u64 a, .int .u64 b, .int .u64 c]) (by simp)
  have c2 : wr.cell? ⟨p, 2, none⟩ = some (.int .u64 b) := hblk.cell 2
  have c3 : wr.cell? ⟨p, 3, none⟩ = some (.int .u64 c) := hblk.cell 3
  have HC := hid (H1.out.mem.play (kk : Int) x b c (by omega) Hx.out Hb.out Hc.out)
  have HB2 := hid (HB.out kk hmem)
  clear hblk hkk hmem
  go_wp2_with fail
  refine HC.out.mono ?_
  rintro e w2 ⟨rs, S', rfl, HR⟩
  obtain ⟨hr, hS⟩ := HB2.out rs S' (by have := HR.out.2.2; rwa [show ((kk : Int)).toNat = kk by omega] at this)
  subst hr hS
  have H2 := hid (H1.out.step HR.out.2.1)
  have HU2 := hid (HU.out.trans HR.out.2.1.u)
  clear HC HR H1 HB2 ce c2 c3
  go_wp2_with fail
  refine (HRf.out _).mono ?_
  rintro e w3 ⟨rfl, hb3⟩
  have H3 : Hid (LN w0 (xs ++ (l, S') :: ys) (bl ++ [(p, 29, [.int .u8 kd, .int .u64 a, .int .u64 b, .int .u64 c])]) w3 ∧ UL l.wr w w3) := hid ⟨H2.out.below hb3, HU2.out.then hb3⟩
  clear hb3 H2
  have hne := fun wz => neq_rs want 0 0 wz
  generalize (rsC want 0 0).toArray = ra at hne ⊢
  go_wp2
  exact ⟨⟨i + 1, by go_num, by omega, H3⟩, by simp [intOf]; omega⟩
end
end Go.Proofs.Qxb6500887aGreatDoor
