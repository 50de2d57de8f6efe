/- ImagesComeBack: the walk. -/
import Derived.Test.Qxb6500887aGreatAzIg
import Derived.Deep.DeepCutAuto
namespace Go.Proofs.Qxb6500887aGreat
open Go.RowKit
set_option linter.unusedSimpArgs false
set_option linter.unusedVariables false
/-- Arenas inside the law, and the image's row beside them. -/
structure IX (w0 : World) (zs : List (AL × AS)) (g cap : Nat) (X : Nat → Nat) (w : World) : Prop where
  ln : LN w0 zs [] w
  im : ImR g cap X w
  xn : ∀ x ∈ zs, g ∉ x.1.all
  lo : w0.heap.size ≤ g
section
variable {w0 w w' : World} {l : AL} {S S' : AS} {zs xs ys : List (AL × AS)} {g cap : Nat} {X Y : Nat → Nat}
theorem ImR.congr (h : ImR g cap X w) (e : ∀ i, i < 34180 → X i = Y i) : ImR g cap Y w := by
  obtain ⟨cs, hb, h1, h2⟩ := h.bk
  exact ⟨h.c1, h.c2, cs, hb, h1, fun i hi => by rw [← e i hi]; exact h2 i hi⟩
theorem IX.below (h : IX w0 zs g cap X w) (hb : Below w.heap.size w w') : IX w0 zs g cap X w' := ⟨h.ln.below hb, h.im.of (hb.block g h.im.lt), h.xn, h.lo⟩
theorem IX.step (h : IX w0 (xs ++ (l, S) :: ys) g cap X w) (hu : AU l w S' w') : IX w0 (xs ++ (l, S') :: ys) g cap X w' := ⟨h.ln.step hu, h.im.of (hu.u.block g h.im.lt (fun hw => h.xn (l, S) (by simp) (AL.wr_all hw))), fun x hx => by
  rcases List.mem_append.1 hx with c | c
  · exact h.xn x (List.mem_append_left _ c)
  · rcases List.mem_cons.1 c with c | c
    · rw [c]; exact h.xn (l, S) (by simp)
    · exact h.xn x (List.mem_append_right _ (List.mem_cons_of_mem _ c)), h.lo⟩
theorem IX.arena (h : IX w0 zs g cap X w) : Calls Tryz.prog 11 #[] w fun e w' => ∃ l : AL, e = .returned (.pointer (some ⟨l.a, 0, none⟩)) ∧ Hid (IX w0 (zs ++ [(l, S0)]) g cap X w') := (arenaNewZ w).mono (by
  rintro e w1 ⟨l, rfl, H⟩
  refine ⟨l, rfl, hid ⟨h.ln.add H.out.2.1 H.out.1 H.out.2.2, h.im.of (H.out.2.1.block g h.im.lt), fun x hx => ?_, h.lo⟩⟩
  rcases List.mem_append.1 hx with c | c
  · exact h.xn x c
  · rw [List.mem_singleton.1 c]
    intro hg
    have h1 := H.out.2.2.all g hg
    have h2 := h.im.lt
    omega)
/-- The image's block alone is written. -/
theorem IX.upd (h : IX w0 zs g cap X w) (hk : ∀ k, k < w.heap.size → k ≠ g → w'.heap[k]? = w.heap[k]?) (ho : w'.os = w.os) (ht : w'.tape = w.tape) (hp : w'.output = w.output) (hs : w.heap.size ≤ w'.heap.size) (hi : ImR g cap Y w') : IX w0 zs g cap Y w' := by
  have hb : Below w0.heap.size w0 w' := h.ln.bel.trans ⟨ho, ht, hp, hs, fun k hk' => hk k (by have := h.ln.bel.size; omega) (by have := h.lo; omega)⟩
  exact ⟨⟨fun x hx => ⟨(h.ln.ls x hx).am.of (fun k hk' hlt => hk k hlt (fun e => h.xn x hx (e ▸ hk'))), hb, (h.ln.ls x hx).ab⟩, h.ln.dj, fun x hx => (by cases hx), fun x hx => (by cases hx), hb⟩, hi, h.xn, h.lo⟩
theorem IX.put (h : IX w0 zs g cap X w) {k y : Nat} (hk : k < 34180) : IX w0 zs g cap (fup X k y) (w.setCell ⟨g, k, none⟩ (.int .u64 (y : Int))) := by
  have hu := (Upd.refl g w).setCell (p := ⟨g, k, none⟩) rfl (.int .u64 (y : Int))
  exact h.upd (fun j hj hne => hu.block j hj hne) hu.os hu.tape hu.output hu.size (h.im.put hk)
/-- ReadImage of the image's row, or of a part of it. -/
theorem IX.read (h : IX w0 (xs ++ (l, S) :: ys) g cap X w) {n : Nat} (hn : n ≤ 34180) (hX : ∀ i, X i < 18446744073709551616) : Calls Tryz.prog 21 #[.pointer (some ⟨l.a, 0, none⟩), .slice (some ⟨g, 0, none⟩) n cap] w fun e w' => ∃ (cd : Int) (S' : AS), e = .returned (.int .u8 cd) ∧ Hid (IX w0 (xs ++ (l, S') :: ys) g cap X w' ∧ RdI X n S cd S') :=
  (readImageZ (h.ln.ls (l, S) (by simp)).am (fun i hi => h.im.sl i (by omega)) hX h.im.lt (h.xn (l, S) (by simp)) (by omega) (by have := h.im.c1; omega) h.im.c2).mono (by
    rintro e w1 ⟨cd, S', rfl, H⟩
    exact ⟨cd, S', rfl, hid ⟨h.step H.out.1, H.out.2⟩⟩)
/-- append(img, 0), guarded. -/
theorem wpList_app_im {ops : Array Oper} {rest : List Oper} {o : Oper} {a : Act} {Q : Exit → Act → World → Prop} (hw : Region.wanted o (yielded ops a.tmps) = true) (s x : Operand) (ho : o.op = .call { callee := .builtin .append, args := #[s, x], argTypes := #[53, 53] }) (p : Nat)
    (hs : a.eval s = .slice (some ⟨g, 0, none⟩) 34180 cap) (hx : a.eval x = .slice (some ⟨p, 0, none⟩) 1 1) (hI : ImR g cap X w) (hp : Blk w p 29 [.int .u64 0])
    (h : ∀ g' cap' w', Hid (ApI g cap X w g' cap' w') → wpList Tryz.prog ops Q rest (a.put o.dst (.slice (some ⟨g', 0, none⟩) 34181 cap')) w') : wpList Tryz.prog ops Q (o :: rest) a w := by
  obtain ⟨g', cap', w', hr, h1⟩ := app_run hI hp o.type
  unfold wpList
  rw [if_pos hw]
  refine .inl ?_
  unfold Oper.wp execOp
  simp only [ho, resolve, invoke, builtin, Sem.run_bind, Sem.run_pure, Result.andThen_ok, List.map_toArray, List.map_cons, List.map_nil, hs, hx, hr]
  exact h g' cap' w' (hid h1)
end
set_option maxRecDepth 1000000 in
set_option maxHeartbeats 8000000 in
theorem imagesLaw_walk (a : Option Addr) (n c : Nat) (l : List AOp) (w : World) (hs : Script w a n c l) :
    Calls Tryz.prog 5 #[.slice a n c] w fun e w' => e = .returned (.bool true) ∧ Below w.heap.size w w' := by
  have hn := hs.1.2.2.1.1
  have HS := hid hs
  clear hs
  by_cases hsm : n ≤ 65536
  rotate_left
  · have hd : decide (n ≤ 65536) = false := decide_eq_false hsm
    go_enter Tryz.func5, Tryz.ntmps5
    go_wp2_with (go_at_call 10; refine (small_walk a n c hn _).mono ?_; rintro e w' ⟨rfl, rfl⟩)
    go_ret
    exact ⟨rfl, Below.refl _ _⟩
  have hd : decide (n ≤ 65536) = true := decide_eq_true hsm
  go_enter Tryz.func5, Tryz.ntmps5
  go_wp2_with (go_at_call 10; refine (small_walk a n c hn _).mono ?_; rintro e w' ⟨rfl, rfl⟩)
  refine (LN.start _).arena.mono ?_
  rintro e w1 ⟨l1, rfl, H1⟩
  have H0 : Hid (∃ S, LN w' [(l1, S)] [] w1) := hid ⟨S0, H1.out⟩
  clear H1
  go_wp2_with fail
  go_loopw [21] (fun u wr => ∃ (k : Nat), u = .int .i64 (k : Int) ∧ k ≤ n ∧ Hid (∃ S, LN w' [(l1, S)] [] wr)) (fun u _ => n - (intOf u).toNat)
  case atStart => exact ⟨0, rfl, Nat.zero_le _, H0⟩
  case round =>
  clear H0
  obtain ⟨k, rfl, hk, HK⟩ := hrel
  obtain ⟨S, hsv⟩ := HK.out
  have HV := hid hsv
  clear hsv HK
  by_cases hlt : k < n
  · as_aux_lemma =>
    obtain ⟨o, ho, hok, b, off, rfl, hb, c0, c1, c2, c3⟩ := (HS.out.below HV.out.bel).at hlt
    obtain ⟨kind, oa, ob, oc⟩ := o
    obtain ⟨k0, k1, ha, hb', hc'⟩ := hok
    dsimp only at c0 c1 c2 c3 ha hb' hc' k0 k1
    have HA := hid ha
    have HBo := hid hb'
    have HCo := hid hc'
    have HK0 := hid k0
    clear ho ha hb' hc' k0 k1
    obtain ⟨p, hp⟩ : ∃ p, wr.heap.size = p := ⟨_, rfl⟩
    have H1 : Hid (LN w' [(l1, S)] [(p, 31, [.int .u8 kind, .int .u64 oa, .int .u64 ob, .int .u64 oc])] (wr.alloc (.cells #[.int .u8 kind, .int .u64 oa, .int .u64 ob, .int .u64 oc] 31))) := hid (HV.out.new hp (by decide))
    go_upto_region 7 with fail
    (try simp only [hp])
    generalize hwa : World.alloc wr _ = wa at H1 ⊢
    clear hwa c0 c1 c2 c3 hp HV hb
    have hblk := H1.out.bk _ (List.mem_singleton.2 rfl)
    have c0 : wa.cell? ⟨p, 0, none⟩ = some (.int .u8 kind) := hblk.cell 0
    have c1 : wa.cell? ⟨p, 1, none⟩ = some (.int .u64 oa) := hblk.cell 1
    have c2 : wa.cell? ⟨p, 2, none⟩ = some (.int .u64 ob) := hblk.cell 2
    have c3 : wa.cell? ⟨p, 3, none⟩ = some (.int .u64 oc) := hblk.cell 3
    clear hblk
    have HC := hid ((H1.out.ls (l1, S) (by simp)).play kind oa ob oc HK0.out HA.out HBo.out HCo.out)
    go_wp2_with fail
    refine HC.out.mono ?_
    rintro e w2 ⟨rs, S1, rfl, HR⟩
    have HF : Hid (∃ S, LN w' [(l1, S)] [] w2) := hid ⟨S1, (H1.out.step (xs := []) HR.out.2.1).drop (fun x hx => by cases hx)⟩
    clear HC HR H1 c0 c1 c2 c3
    go_wp2
    exact ⟨⟨k + 1, by go_num, by omega, HF⟩, by simp [intOf]; omega⟩
  have hkn : k = n := by omega
  subst hkn
  clear hlt hk
  have HC := hid (appendImageZ (HV.out.ls (l1, S) (by simp)).am)
  go_wp2_with fail
  refine HC.out.mono ?_
  rintro e w2 ⟨g, cap, rfl, HP⟩
  obtain ⟨X, hX⟩ : ∃ X, imX S = X := ⟨_, rfl⟩
  have HXf : Hid ((∀ i, X i < 18446744073709551616) ∧ hdOk X ∧ ckN X 34179 = X 34179 ∧ ∀ S', Sm (rdJ S' X 4) S) := hid (by
    rw [← hX]
    exact ⟨fun i => imX_lt HP.out.am i, imX_hd S, imX_ck S, fun S' => Sm.image S' S⟩)
  have H2 : Hid (IX w' [(l1, S)] g cap X w2) := hid (by
    refine ⟨HV.out.below HP.out.bel, ⟨HP.out.c1, HP.out.c2, by rw [← hX]; exact HP.out.bk⟩, fun x hx hg => ?_, Nat.le_trans HV.out.bel.size HP.out.lo⟩
    have h1 := (HV.out.ls x hx).am.lts g hg
    have h2 := HP.out.lo
    omega)
  clear hX HP HC HV
  have HC := hid (imageWordsZ (H2.out.ln.ls (l1, S) (by simp)).am)
  go_wp2_with fail
  refine HC.out.mono ?_
  rintro e w3 ⟨rfl, hb3⟩
  have H3 := hid (H2.out.below hb3)
  clear HC hb3 H2
  have HC := hid H3.out.arena
  go_wp2_with fail
  refine HC.out.mono ?_
  rintro e w4 ⟨l2, rfl, HN⟩
  have H4 : Hid (IX w' [(l1, S), (l2, S0)] g cap X w4) := hid HN.out
  clear HC HN H3
  -- b reads the image
  have HC := hid (IX.read (xs := [(l1, S)]) (ys := []) H4.out (n := 34180) (by omega) HXf.out.1)
  go_wp2_with fail
  refine HC.out.mono ?_
  rintro e w5 ⟨cd, S2, rfl, HR⟩
  have hcd : cd = 0 ∧ S2 = rdJ S0 X 4 := by
    rcases HR.out.2 with ⟨h1, _⟩ | ⟨_, h1, _⟩ | ⟨_, _, h1, _⟩ | ⟨_, _, _, h1, h2⟩
    · exact absurd rfl h1
    · exact absurd HXf.out.2.1 h1
    · exact absurd HXf.out.2.2.1 h1
    · exact ⟨h1, h2⟩
  obtain ⟨rfl, rfl⟩ := hcd
  have H5 : Hid (IX w' [(l1, S), (l2, rdJ S0 X 4)] g cap X w5) := hid HR.out.1
  clear HC HR H4
  have HC := hid (equalZ (H5.out.ln.ls (l2, rdJ S0 X 4) (by simp)).am (H5.out.ln.ls (l1, S) (by simp)).am)
  go_wp2_with fail
  refine HC.out.mono ?_
  rintro e w6 ⟨r, rfl, HE⟩
  have hr : r = true := HE.out.1.2 (HXf.out.2.2.2 S0)
  subst hr
  have H6 := hid (H5.out.below HE.out.2)
  clear HC HE H5
  have HC := hid (soundZ (H6.out.ln.ls (l2, rdJ S0 X 4) (by simp)).am)
  go_wp2_with fail
  refine HC.out.mono ?_
  rintro e w7 ⟨rfl, hb7⟩
  have H7 := hid (H6.out.below hb7)
  clear HC hb7 H6
  -- fresh and c
  have HC := hid H7.out.arena
  go_wp2_with fail
  refine HC.out.mono ?_
  rintro e w8 ⟨l3, rfl, HN⟩
  clear HC H7
  have HC := hid HN.out.arena
  go_wp2_with fail
  refine HC.out.mono ?_
  rintro e w9 ⟨l4, rfl, HN2⟩
  have H9 : Hid (IX w' [(l1, S), (l2, rdJ S0 X 4), (l3, S0), (l4, S0)] g cap X w9) := hid HN2.out
  clear HC HN HN2
  -- a shorter image
  have hc1 := H9.out.im.c1
  have hc2 := H9.out.im.c2
  have kc : (34179 : Int) ≤ (cap : Int) := by omega
  have kc0 : ¬ cap = 0 := by omega
  have HC := hid (IX.read (xs := [(l1, S), (l2, rdJ S0 X 4), (l3, S0)]) (ys := []) H9.out (n := 34179) (by omega) HXf.out.1)
  go_wp2_with fail
  refine HC.out.mono ?_
  rintro e w10 ⟨cd, S4, rfl, HR⟩
  have hcd : cd = 4 ∧ S4 = S0 := by
    rcases HR.out.2 with ⟨_, h1, h2⟩ | ⟨h1, _⟩ | ⟨h1, _⟩ | ⟨h1, _⟩
    · exact ⟨h1, h2⟩
    · omega
    · omega
    · omega
  obtain ⟨rfl, rfl⟩ := hcd
  have H10 : Hid (IX w' [(l1, S), (l2, rdJ S0 X 4), (l3, S0), (l4, S0)] g cap X w10) := hid HR.out.1
  clear HC HR H9
  go_wp2_with (at_builtin; refine stopHere ?_)
  intro _
  obtain ⟨p, hp⟩ : ∃ p, w10.heap.size = p := ⟨_, rfl⟩
  have H11 : Hid (IX w' [(l1, S), (l2, rdJ S0 X 4), (l3, S0), (l4, S0)] g cap X (w10.alloc (.cells #[.int .u64 0] 29)) ∧ Blk (w10.alloc (.cells #[.int .u64 0] 29)) p 29 [.int .u64 0] ∧ p < (w10.alloc (.cells #[.int .u64 0] 29)).heap.size) := hid (by
    have kk := Blk.new w10 [.int .u64 0] 29
    rw [hp] at kk
    exact ⟨H10.out.below (nbel _ _), kk, kk.lt⟩)
  (try simp only [hp])
  generalize hw11 : World.alloc w10 _ = w11 at H11 ⊢
  clear hw11 hp H10
  refine wpList_app_im (g := g) (cap := cap) (X := X) rfl (.tmp 64) (.tmp 65) rfl p rfl rfl H11.out.1.im H11.out.2.1 ?_
  intro g2 cap2 w12 HA2
  have H12 : Hid (IX w' [(l1, S), (l2, rdJ S0 X 4), (l3, S0), (l4, S0)] g cap X w12 ∧ ∀ x ∈ ([(l1, S), (l2, rdJ S0 X 4), (l3, S0), (l4, S0)] : List (AL × AS)), g2 ∉ x.1.all) := hid (by
    have hu := HA2.out.up
    refine ⟨H11.out.1.upd (fun k hk hne => hu.block k hk (fun e => hne (by injection e with e; exact e.symm))) hu.os hu.tape hu.output hu.size HA2.out.im, fun x hx hg => ?_⟩
    rcases HA2.out.at' with e | e
    · exact H11.out.1.xn x hx (e ▸ hg)
    · have := (H11.out.1.ln.ls x hx).am.lts g2 hg
      omega)
  clear H11
  have hcc1 := HA2.out.c1
  have HC := hid (readImageZ (w := w12) (g := g2) (n := 34181) (cap := cap2) (H12.out.1.ln.ls (l4, S0) (by simp)).am HA2.out.sl (fun i => by unfold ap0; split; decide; exact HXf.out.1 i) HA2.out.lt (H12.out.2 (l4, S0) (by simp)) (by omega) (by omega) HA2.out.c2)
  simp only [Act.put, List.setIfInBounds_toArray, List.set_cons_succ, List.set_cons_zero]
  go_wp2_with fail
  refine HC.out.mono ?_
  rintro e w13 ⟨cd, S4, rfl, HR⟩
  have hcd : cd = 4 ∧ S4 = S0 := by
    rcases HR.out.2 with ⟨_, h1, h2⟩ | ⟨h1, _⟩ | ⟨h1, _⟩ | ⟨h1, _⟩
    · exact ⟨h1, h2⟩
    · omega
    · omega
    · omega
  obtain ⟨rfl, rfl⟩ := hcd
  have H13 : Hid (IX w' [(l1, S), (l2, rdJ S0 X 4), (l3, S0), (l4, S0)] g cap X w13) := hid (H12.out.1.step (xs := [_, _, _]) HR.out.1)
  clear HC HR H12 HA2 hcc1
  clear hc1 hc2 kc kc0
  go_wp2_with fail
  go_loopw [72] (fun u wr => ∃ (i : Nat), u = .int .i64 (i : Int) ∧ i ≤ k ∧ Hid (IX w' [(l1, S), (l2, rdJ S0 X 4), (l3, S0), (l4, S0)] g cap X wr)) (fun u _ => k - (intOf u).toNat)
  case atStart => exact ⟨0, rfl, Nat.zero_le _, H13⟩
  case round =>
  clear H13
  obtain ⟨i, rfl, hi, H14⟩ := hrel
  obtain ⟨w14, hw14⟩ : ∃ x, x = wr := ⟨_, rfl⟩
  subst hw14
  by_cases hik : i < k
  rotate_left
  · as_aux_lemma =>
    have hie : i = k := by omega
    subst hie
    have HC := hid (equalZ (H14.out.ln.ls (l4, S0) (by simp)).am (H14.out.ln.ls (l3, S0) (by simp)).am)
    go_wp2_with fail
    refine HC.out.mono ?_
    rintro e w15 ⟨r, rfl, HE⟩
    have hr : r = true := HE.out.1.2 (Sm.refl S0)
    subst hr
    have HF := hid (H14.out.below HE.out.2).ln.bel
    clear HC HE H14
    go_wp2
    go_ret
    exact ⟨rfl, HF.out⟩
  obtain ⟨o, ho, hok, b, off, rfl, hb, c0, c1, c2, c3⟩ := (HS.out.below H14.out.ln.bel).at hik
  obtain ⟨kind, oa, ob, oc⟩ := o
  obtain ⟨k0, k1, ha, hb', hc'⟩ := hok
  dsimp only at c0 c1 c2 c3 ha hb' hc' k0 k1
  have HA := hid ha
  have HBo := hid hb'
  clear ho ha hb' hc' k0 k1
  obtain ⟨p2, hp2⟩ : ∃ p, w14.heap.size = p := ⟨_, rfl⟩
  have H15 : Hid (IX w' [(l1, S), (l2, rdJ S0 X 4), (l3, S0), (l4, S0)] g cap X (w14.alloc (.cells #[.int .u8 kind, .int .u64 oa, .int .u64 ob, .int .u64 oc] 31)) ∧ Blk (w14.alloc (.cells #[.int .u8 kind, .int .u64 oa, .int .u64 ob, .int .u64 oc] 31)) p2 31 [.int .u8 kind, .int .u64 oa, .int .u64 ob, .int .u64 oc]) := hid (by
    have kk := Blk.new w14 [.int .u8 kind, .int .u64 oa, .int .u64 ob, .int .u64 oc] 31
    rw [hp2] at kk
    exact ⟨H14.out.below (nbel _ _), kk⟩)
  go_upto_region 21 with fail
  (try simp only [hp2])
  generalize hwa : World.alloc w14 _ = wa at H15 ⊢
  clear hwa c0 c1 c2 c3 hp2 H14 hb
  by_cases hi6 : i = 6
  · as_aux_lemma =>
    have d6 : ((i : Int) == 6) = true := by simp [hi6]
    have H16 := hid H15.out.1
    clear hi6 H15
    have HC := hid (equalZ (H16.out.ln.ls (l4, S0) (by simp)).am (H16.out.ln.ls (l3, S0) (by simp)).am)
    go_wp2_with fail
    refine HC.out.mono ?_
    rintro e w15 ⟨r, rfl, HE⟩
    have hr : r = true := HE.out.1.2 (Sm.refl S0)
    subst hr
    have HF := hid (H16.out.below HE.out.2).ln.bel
    clear HC HE H16
    go_wp2
    go_ret
    exact ⟨rfl, HF.out⟩
  have d6 : ((i : Int) == 6) = false := by simp; omega
  clear hi6
  have c1 : wa.cell? ⟨p2, 1, none⟩ = some (.int .u64 oa) := H15.out.2.cell 1
  have c2 : wa.cell? ⟨p2, 2, none⟩ = some (.int .u64 ob) := H15.out.2.cell 2
  obtain ⟨kk, hkk, hkk2⟩ : ∃ x : Nat, wrap64 (oa.tmod 34180) = (x : Int) ∧ x < 34180 := by
    have h0 := HA.out.1
    refine ⟨oa.toNat % 34180, ?_, Nat.mod_lt _ (by omega)⟩
    have e : oa.tmod 34180 = ((oa.toNat % 34180 : Nat) : Int) := by
      conv => lhs; rw [show oa = (oa.toNat : Int) by omega]
      rfl
    rw [e]
    exact IntWalk.wrap64_in _ ⟨by omega, by omega⟩
  have Hkk := hid hkk
  clear hkk
  go_upto_region 24 with fail
  simp only [Hkk.out]
  clear Hkk
  generalize oa.tmod 34180 = oam
  have H16 := hid H15.out.1
  clear H15 c1 c2
  obtain ⟨bz, hbz⟩ : ∃ b, (ob == 0) = b := ⟨_, rfl⟩
  go_upto_if 89 with fail
  have Hbz := hid hbz
  clear hbz
  go_cut [13] from 89 to 89 (fun v wd => ∃ ch : Nat, v = .int .u64 (ch : Int) ∧ Hid (0 < ch ∧ ch < 18446744073709551616) ∧ wd = wa)
  case first =>
    cases bz with
    | true =>
      as_aux_lemma =>
      go_wp2
      go_meet
      case rel => exact ⟨1, rfl, hid ⟨by decide, by decide⟩, rfl⟩
    | false =>
      as_aux_lemma =>
      have hz : ob ≠ 0 := by have := Hbz.out; simpa using this
      obtain ⟨ch, hch⟩ : ∃ ch : Nat, ob = (ch : Int) := ⟨ob.toNat, by have := HBo.out.1; omega⟩
      have HF : Hid (0 < ch ∧ ch < 18446744073709551616) := hid (by have h1 := HBo.out; unfold U64 at h1; omega)
      subst hch
      clear hz
      go_wp2
      go_meet
      case rel => exact ⟨ch, rfl, HF, rfl⟩
  case rest =>
  obtain ⟨ch, rfl, HCh, hw_⟩ := hcut
  have hs_ := hw_.symm
  clear hw_
  subst hs_
  clear Hbz
  obtain ⟨x, hx⟩ : ∃ x, X kk = x := ⟨_, rfl⟩
  obtain ⟨y, hy⟩ : ∃ y, x ^^^ ch = y := ⟨_, rfl⟩
  have hxl : x < 18446744073709551616 := by rw [← hx]; exact HXf.out.1 kk
  have hyl : y < 18446744073709551616 := by rw [← hy]; exact xor_lt hxl HCh.out.2
  have hyx : y ^^^ ch = x := by rw [← hy]; exact xor_back _ _
  have hne : Hid (y ≠ X kk) := hid (by
    rw [hx, ← hy]
    intro e
    have h1 : x ^^^ ch = x ^^^ 0 := by rw [Nat.xor_zero]; exact e
    have := xor_injL h1
    have := HCh.out.1
    omega)
  have hxor : bits .xor .u64 (x : Int) (ch : Int) = (y : Int) := by rw [u64_xor_nat x ch hxl HCh.out.2, hy]
  have cx : wa.cell? ⟨g, kk, none⟩ = some (.int .u64 (x : Int)) := by
    have := H16.out.im.sl kk hkk2
    rwa [Nat.zero_add, hx] at this
  have fx := H16.out.im.fz kk
  have ikk : (kk : Int) < 34180 := by omega
  have H17 : Hid (IX w' [(l1, S), (l2, rdJ S0 X 4), (l3, S0), (l4, S0)] g cap (fup X kk y) (wa.setCell ⟨g, kk, none⟩ (.int .u64 (y : Int)))) := hid (H16.out.put hkk2)
  have Hx := hid hx
  have Hyx := hid hyx
  clear hx hy hyx
  go_upto_region 27 with fail
  generalize hwb : World.setCell wa _ _ = wb at H17 ⊢
  clear hwb cx fx H16 hxor
  have HXY : Hid (∀ i, fup X kk y i < 18446744073709551616) := hid (fun i => by
    by_cases c : i = kk
    · rw [c, fup_self]; exact hyl
    · rw [fup_ne _ _ c]; exact HXf.out.1 i)
  have HC := hid (IX.read (xs := [(l1, S), (l2, rdJ S0 X 4), (l3, S0)]) (ys := []) H17.out (n := 34180) (by omega) HXY.out)
  go_wp2_with fail
  refine HC.out.mono ?_
  rintro e w18 ⟨cd, S4, rfl, HR⟩
  obtain ⟨hcd, hS4⟩ := HR.out.2.changed rfl HXf.out.1 hyl hkk2 hne.out HXf.out.2.1 HXf.out.2.2.1
  subst hS4
  have H18 : Hid (IX w' [(l1, S), (l2, rdJ S0 X 4), (l3, S0), (l4, S0)] g cap (fup X kk y) w18) := hid HR.out.1
  clear HC HR H17 HXY hne
  have dcd : (cd == 0) = false := by simp [hcd]
  clear hcd
  have hxor : bits .xor .u64 (y : Int) (ch : Int) = (x : Int) := by rw [u64_xor_nat y ch hyl HCh.out.2, Hyx.out]
  have cy : w18.cell? ⟨g, kk, none⟩ = some (.int .u64 (y : Int)) := by
    have := H18.out.im.sl kk hkk2
    rwa [Nat.zero_add, fup_self] at this
  have fy := H18.out.im.fz kk
  have H19 : Hid (IX w' [(l1, S), (l2, rdJ S0 X 4), (l3, S0), (l4, S0)] g cap X (w18.setCell ⟨g, kk, none⟩ (.int .u64 (x : Int)))) := hid (by
    have h1 := H18.out.put (y := x) hkk2
    exact ⟨h1.ln, h1.im.congr (fun i hi => by
      by_cases c : i = kk
      · rw [c, fup_self, Hx.out]
      · rw [fup_ne _ _ c, fup_ne _ _ c]), h1.xn, h1.lo⟩)
  go_upto_region 29 with fail
  generalize hwb : World.setCell w18 _ _ = w19 at H19 ⊢
  clear hwb cy fy H18 hxor Hx Hyx
  have HC := hid (versionZ (H19.out.ln.ls (l4, S0) (by simp)).am)
  rw [show ((S0.v : Nat) : Int) = 0 from rfl] at HC
  go_wp2_with fail
  refine HC.out.mono ?_
  rintro e_ w_ ⟨rfl, hw_⟩
  have hs_ := hw_.symm
  clear hw_ HC
  subst hs_
  go_wp2
  exact ⟨⟨i + 1, by go_num, by omega, H19⟩, by simp [intOf]; omega⟩
end Go.Proofs.Qxb6500887aGreat
