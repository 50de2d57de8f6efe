/- sum, EachField, Housed, OwnerOf (written by tools/mk_azu.py). -/
import Derived.Test.Qxb6500887aGreatAzT
namespace Go.Proofs.Qxb6500887aGreat
open Go.RowKit
set_option linter.unusedSimpArgs false
set_option linter.unusedVariables false

/-- The sum of a row, in 64 bits. -/
def sumU (xs : List Nat) : Nat := xs.foldl (fun a x => (a + x) % 18446744073709551616) 0
theorem sumU_step {xs : List Nat} {j x : Nat} (h : xs[j]? = some x) : sumU (xs.take (j + 1)) = (sumU (xs.take j) + x) % 18446744073709551616 := by
  unfold sumU
  rw [List.take_add_one, h, List.foldl_append]
  rfl
theorem sumU_lt (xs : List Nat) : sumU xs < 18446744073709551616 := by
  unfold sumU
  have : ∀ (ys : List Nat) (a : Nat), a < 18446744073709551616 → ys.foldl (fun a x => (a + x) % 18446744073709551616) a < 18446744073709551616 := by
    intro ys
    induction ys with
    | nil => intro a h; exact h
    | cons y ys ih => intro a h; exact ih _ (Nat.mod_lt _ (by decide))
  exact this xs 0 (by decide)
set_option maxRecDepth 100000 in
theorem sumZ {n0 n q : Nat} {ax : Option Addr} {xs : List Nat} {w : World} (h : OwR rtA n0 w (.slice ax n q) xs) : Calls Tryz.prog 175 #[.slice ax n q] w fun e w' => e = .returned (.int .u64 ((sumU xs : Nat) : Int)) ∧ w' = w := by
  have hn : xs.length = n := (h.rx.src).2.2
  have hnb : n ≤ maxLen := by have := h.rx.cap; omega
  have HR := hid h
  have Hn := hid hn
  clear h hn
  have hmx : n ≤ 9223372036854775807 := by unfold maxLen at hnb; omega
  clear hnb
  go_enter Tryz.func175, Tryz.ntmps175
  go_upto_region 3 with fail
  go_loopw [3, 8] (fun t u wr => wr = w ∧ ∃ j : Nat, u = .int .i64 (j : Int) ∧ t = .int .u64 ((sumU (xs.take j) : Nat) : Int) ∧ j ≤ n) (fun _ u _ => n - (intOf u).toNat)
  case atStart => exact ⟨rfl, 0, rfl, rfl, Nat.zero_le _⟩
  case round =>
  obtain ⟨hwr, j, rfl, rfl, hj⟩ := hrel
  have hwr' := hwr.symm
  clear hwr
  subst hwr'
  by_cases hjn : j < n
  · have dj : decide ((j : Int) < (n : Int)) = true := decide_eq_true (by omega)
    obtain ⟨x, hx⟩ : ∃ x, xs[j]? = some x := ⟨_, List.getElem?_eq_getElem (by rw [Hn.out]; exact hjn)⟩
    obtain ⟨g, q', hv, hg, hcell⟩ := HR.out.rx.get okA.pos okA.len hx
    injection hv with h1 h2 h3
    subst h1
    have cw : w.cell? ⟨g, j, none⟩ = some (.int .u64 (x : Int)) := by
      have := hcell 0 (by decide)
      rw [show j * rtA.n + 0 = j by show j * 1 + 0 = j; omega] at this
      exact this
    have Hs := hid (sumU_step hx)
    have HE : Hid (IntKind.u64.wrap (((sumU (xs.take j) : Nat) : Int) + (x : Int)) = (((sumU (xs.take j) + x) % 18446744073709551616 : Nat) : Int)) := hid (by rw [IntKind.wrap_u64]; omega)
    generalize sumU (xs.take j) = s at *
    clear hcell hx h2 h3
    as_aux_lemma =>
    go_wp2
    rw [HE.out, ← Hs.out]
    exact ⟨⟨by trivial, j + 1, by go_num, rfl, by omega⟩, by simp [intOf]; omega⟩
  · as_aux_lemma =>
    have dj : decide ((j : Int) < (n : Int)) = false := decide_eq_false (by omega)
    have HE : Hid (sumU (xs.take j) = sumU xs) := hid (by rw [List.take_of_length_le (by rw [Hn.out]; omega)])
    rw [HE.out]
    go_wp2
    go_ret
    exact ⟨rfl, rfl⟩
section
variable {l : AL} {S : AS} {w w' w0 : World} {p q : Nat} {cs : List Value} {o : Ob} {v v' : Value} {xs ys : List Nat}
/-- Inside EachField. -/
structure EO (I : World → Prop) (p : Nat) (l : AL) (o : Ob) (w0 : World) (gs : List Nat) (w : World) : Prop where
  i : I w
  b : Blk w p 61 (obL l o)
  u : UL gs w0 w
  lo : w0.heap.size ≤ p
theorem EO.below {I : World → Prop} {gs : List Nat} (hbel : ∀ w1 w2, I w1 → Below w1.heap.size w1 w2 → I w2) (h : EO I p l o w0 gs w) (hb : Below w.heap.size w w') : EO I p l o w0 gs w' := ⟨hbel _ _ h.i hb, h.b.below hb, h.u.then hb, h.lo⟩
theorem EO.step {I : World → Prop} {gs : List Nat} (hgs : ∀ g ∈ gs, g < w0.heap.size) (h : EO I p l o w0 gs w) (hi : I w') (hu : UL gs w w') : EO I p l o w0 gs w' := ⟨hi, hu.blk h.b (fun hm => by have := hgs p hm; have := h.lo; omega), h.u.trans hu, h.lo⟩
theorem EO.ps {I : World → Prop} {gs : List Nat} (h : EO I p l o w0 gs w) : w.cell? ⟨p, 0, none⟩ = some (.pointer (some ⟨l.a, 0, none⟩)) ∧ w.cell? ⟨p, 1, none⟩ = some (.int .i64 (o.k : Int)) ∧ w.cell? ⟨p, 2, none⟩ = some (.int .u64 (o.raw : Int)) ∧ w.cell? ⟨p, 3, none⟩ = some (.int .i64 (o.sz : Int)) ∧ w.cell? ⟨p, 4, none⟩ = some (.int .i64 (o.rf : Int)) := ⟨h.b.cell 0, h.b.cell 1, h.b.cell 2, h.b.cell 3, h.b.cell 4⟩
set_option maxRecDepth 100000 in
set_option maxHeartbeats 4000000 in
/-- EachField, whatever the closure. -/
theorem eachFieldZ (fid : FuncId) (cp : Array Value) (hent : FnE fid) (I : World → Prop) (gs : List Nat) (hgs : ∀ g ∈ gs, g < w.heap.size) (hI : I w) (hA : ∀ w1, I w1 → AM l S w1) (hbel : ∀ w1 w2, I w1 → Below w1.heap.size w1 w2 → I w2) (ho : ObOk o)
    (hcall : ∀ (i : Nat) (r : Int) w1, i < o.rf → I w1 → Calls Tryz.prog fid (#[.int .i64 (i : Int), .int .u64 (65536 + ((o.k + 1 + i : Nat) : Int)), .int .u64 r] ++ cp) w1 (fun e w' => ∃ ok : Bool, e = .returned (.bool ok) ∧ I w' ∧ UL gs w1 w')) :
    Calls Tryz.prog 144 #[.agg #[.pointer (some ⟨l.a, 0, none⟩), .int .i64 (o.k : Int), .int .u64 (o.raw : Int), .int .i64 (o.sz : Int), .int .i64 (o.rf : Int)], .func (.func fid) #[] cp] w fun e w' => ∃ c : Int, e = .returned (.int .u8 c) ∧ Hid (I w' ∧ UL gs w w') := by
  obtain ⟨p, hp⟩ : ∃ p, w.heap.size = p := ⟨_, rfl⟩
  have HX : Hid (EO I p l o w gs (w.alloc (.cells #[.pointer (some ⟨l.a, 0, none⟩), .int .i64 (o.k : Int), .int .u64 (o.raw : Int), .int .i64 (o.sz : Int), .int .i64 (o.rf : Int)] 61))) := hid (by
    have k := Blk.new w (obL l o) 61
    rw [hp] at k
    exact ⟨hbel _ _ hI (nbel w _), k, UL.ofBelow (nbel w _), by omega⟩)
  have HC : Hid (∀ wz, AM l S wz → Calls Tryz.prog 208 #[.agg #[.pointer (some ⟨l.a, 0, none⟩), .int .i64 (o.k : Int), .int .u64 (o.raw : Int), .int .i64 (o.sz : Int), .int .i64 (o.rf : Int)]] wz fun e w' => e = .returned (.int .u8 (ckC S o)) ∧ Below wz.heap.size wz w') := hid (fun wz hz => checkZ hz ho)
  have o2 := ho.s2
  have o3 := ho.rf
  have o4 := ho.k
  have HA := hid hA
  have HBe := hid hbel
  have HG := hid hgs
  unfold FnE at hent
  clear hI hA hbel hgs ho
  by_cases hc : S.W o.k = o.raw
  rotate_left
  · as_aux_lemma =>
    have e0 : ckC S o = 6 := by unfold ckC; rw [if_neg hc]
    rw [e0] at HC
    clear hc e0 hcall
    go_enter Tryz.func144, Tryz.ntmps144
    go_upto_region 1 with fail
    (try simp only [hp])
    generalize hw1 : w.alloc _ = w1 at HX ⊢
    clear hw1 hp
    obtain ⟨p0, p1, p2, p3, p4⟩ := HX.out.ps
    go_wp2_with fail
    refine (HC.out _ (HA.out _ HX.out.i)).mono ?_
    rintro e w2 ⟨rfl, hb2⟩
    have HX2 := hid (HX.out.below HBe.out hb2)
    clear hb2 HX p0 p1 p2 p3 p4
    go_wp2
    go_ret
    exact ⟨6, rfl, hid ⟨HX2.out.i, HX2.out.u⟩⟩
  have e0 : ckC S o = 0 := by unfold ckC; rw [if_pos hc]
  rw [e0] at HC
  clear hc e0
  obtain ⟨n, hn⟩ : ∃ n, o.rf = n := ⟨_, rfl⟩
  obtain ⟨f, hfk⟩ : ∃ f, o.k + 1 = f := ⟨_, rfl⟩
  rw [hn] at o3 hcall
  simp only [hfk] at hcall
  have ef : (o.k : Int) + 1 = (f : Int) := by omega
  have hkb : f + n ≤ 32768 := by omega
  have HCa := hid hcall
  have Hn := hid hn
  clear hcall hn hfk
  go_enter Tryz.func144, Tryz.ntmps144
  go_upto_region 1 with fail
  (try simp only [hp])
  generalize hw1 : w.alloc _ = w1 at HX ⊢
  clear hw1 hp
  obtain ⟨p0, p1, p2, p3, p4⟩ := HX.out.ps
  go_wp2_with fail
  refine (HC.out _ (HA.out _ HX.out.i)).mono ?_
  rintro e w2 ⟨rfl, hb2⟩
  have HX2 := hid (HX.out.below HBe.out hb2)
  clear hb2 HX p0 p1 p2 p3 p4
  obtain ⟨p0, p1, p2, p3, p4⟩ := HX2.out.ps
  go_upto_region 6 with fail
  clear p0 p1 p2 p3 p4
  go_loopw [7] (fun u wr => ∃ q : Nat, u = .int .i64 (q : Int) ∧ q ≤ n ∧ Hid (EO I p l o w gs wr)) (fun u _ => n - (intOf u).toNat)
  case atStart => exact ⟨0, rfl, Nat.zero_le _, HX2⟩
  case round =>
  clear HX2
  obtain ⟨q, rfl, hq, HK⟩ := hrel
  obtain ⟨p0, p1, p2, p3, p4⟩ := HK.out.ps
  rw [Hn.out] at p4
  by_cases hqn : q < n
  rotate_left
  · as_aux_lemma =>
    have dq : decide ((q : Int) < (n : Int)) = false := decide_eq_false (by omega)
    have dq' : decide (q < n) = false := decide_eq_false (by omega)
    go_wp2
    go_ret
    exact ⟨0, rfl, hid ⟨HK.out.i, HK.out.u⟩⟩
  as_aux_lemma =>
  have dq : decide ((q : Int) < (n : Int)) = true := decide_eq_true (by omega)
  have dq' : decide (q < n) = true := decide_eq_true (by omega)
  have p4' : wr.cell? ⟨p, 4, none⟩ = some (.int .i64 (o.rf : Int)) := HK.out.ps.2.2.2.2
  rw [← Hn.out] at p4 dq dq'
  clear p4'
  go_wp2_with fail
  refine (HC.out _ (HA.out _ HK.out.i)).mono ?_
  rintro e w2 ⟨rfl, hb2⟩
  have HX2 := hid (HK.out.below HBe.out hb2)
  clear hb2 HK p0 p1 p2 p3 p4
  obtain ⟨p0, p1, p2, p3, p4⟩ := HX2.out.ps
  have a0 := (HA.out _ HX2.out.i).cells.1
  have cw := (HA.out _ HX2.out.i).word (i := f + q) (by omega)
  have HCk := hid (fun wz => checkRefZ ((S.W (f + q) : Nat) : Int) wz)
  generalize S.W (f + q) = x at *
  by_cases hr : rfOk (x : Int)
  rotate_left
  · as_aux_lemma =>
    rw [if_neg hr, if_neg hr] at HCk
    clear hr
    (go_wp2_with fail; refine (HCk.out w2).mono ?_; rintro e_ w_ ⟨he_, hw_⟩; subst he_; have hs_ := hw_.symm; clear hw_; subst hs_)
    go_wp2
    go_ret
    exact ⟨9, rfl, hid ⟨HX2.out.i, HX2.out.u⟩⟩
  as_aux_lemma =>
  rw [if_pos hr, if_pos hr] at HCk
  clear hr
  have HCl : Hid (∀ wz, I wz → Calls Tryz.prog fid (#[.int .i64 (q : Int), .int .u64 (65536 + ((f : Int) + (q : Int))), .int .u64 (x : Int)] ++ cp) wz (fun e w' => ∃ ok : Bool, e = .returned (.bool ok) ∧ I w' ∧ UL gs wz w')) := hid (fun wz hz => by
    have := HCa.out q (x : Int) wz hqn hz
    rw [show ((f + q : Nat) : Int) = (f : Int) + (q : Int) by omega] at this
    exact this)
  (go_wp2_with fail; refine (HCk.out w2).mono ?_; rintro e_ w_ ⟨he_, hw_⟩; subst he_; have hs_ := hw_.symm; clear hw_; subst hs_)
  go_wp2_with fail
  refine (HCl.out _ HX2.out.i).mono ?_
  rintro e w4 ⟨ok, rfl, hi4, hu4⟩
  have HX4 := hid (HX2.out.step HG.out hi4 hu4)
  clear hi4 hu4 HX2 p0 p1 p2 p3 p4 a0 cw HCl HCk
  cases ok with
  | false =>
    as_aux_lemma =>
    go_wp2
    go_ret
    exact ⟨0, rfl, hid ⟨HX4.out.i, HX4.out.u⟩⟩
  | true =>
    as_aux_lemma =>
    go_wp2
    exact ⟨⟨q + 1, by go_num, by omega, HX4⟩, by simp [intOf]; omega⟩
/-- Whether an object's lines all have a tally. -/
def hsV (S : AS) (o : Ob) : Bool := if S.W o.k = o.raw then (((hiL o.k (1 + o.sz) : Nat) : Int) + 1 - ((loL o.k : Nat) : Int) - ((cnt (fun i => inR (loL o.k) (hiL o.k (1 + o.sz) + 1) i && !(eN 4 16 S.T i == 0)) 2048 : Nat) : Int) == 0) else false
set_option maxRecDepth 100000 in
set_option maxHeartbeats 4000000 in
theorem housedZ (h : AM l S w) (ho : ObOk o) : Calls Tryz.prog 146 #[.agg #[.pointer (some ⟨l.a, 0, none⟩), .int .i64 (o.k : Int), .int .u64 (o.raw : Int), .int .i64 (o.sz : Int), .int .i64 (o.rf : Int)]] w fun e w' => e = .returned (.bool (hsV S o)) ∧ Hid (Below w.heap.size w w') := by
  unfold hsV
  have hE : EOk o.k (1 + o.sz) := ⟨by omega, by have := ho.k; omega, ho.ev⟩
  have HEx := hid (fun wz (hz : AM l S wz) => obExtentZ hz ho)
  obtain ⟨p, hp⟩ : ∃ p, w.heap.size = p := ⟨_, rfl⟩
  have HX : Hid (OX w l S p (obL l o) (w.alloc (.cells #[.pointer (some ⟨l.a, 0, none⟩), .int .i64 (o.k : Int), .int .u64 (o.raw : Int), .int .i64 (o.sz : Int), .int .i64 (o.rf : Int)] 61))) := hid (OX.new (cs := (obL l o)) h (Below.refl _ w) hp)
  have HC : Hid (∀ wz, AM l S wz → Calls Tryz.prog 208 #[.agg #[.pointer (some ⟨l.a, 0, none⟩), .int .i64 (o.k : Int), .int .u64 (o.raw : Int), .int .i64 (o.sz : Int), .int .i64 (o.rf : Int)]] wz fun e w' => e = .returned (.int .u8 (ckC S o)) ∧ Below wz.heap.size wz w') := hid (fun wz hz => checkZ hz ho)
  have HA := hid h
  have o1 := ho.s1
  have o2 := ho.s2
  have o3 := ho.rf
  have o4 := ho.k
  clear h ho
  by_cases hc : S.W o.k = o.raw
  rotate_left
  · as_aux_lemma =>
    rw [if_neg hc]
    have e0 : ckC S o = 6 := by unfold ckC; rw [if_neg hc]
    rw [e0] at HC
    clear hc e0
    go_enter Tryz.func146, Tryz.ntmps146
    go_upto_region 1 with fail
    (try simp only [hp])
    generalize hw1 : w.alloc _ = w1 at HX ⊢
    clear hw1 hp
    have p0 := HX.out.bk.cell 0
    have p1 := HX.out.bk.cell 1
    have p2 := HX.out.bk.cell 2
    have p3 := HX.out.bk.cell 3
    have p4 := HX.out.bk.cell 4
    simp only [obL, List.getElem?_cons_zero, List.getElem?_cons_succ] at p0 p1 p2 p3 p4
    go_wp2_with fail
    refine (HC.out _ HX.out.am).mono ?_
    rintro e w2 ⟨rfl, hb2⟩
    have HX2 := hid (HX.out.below hb2)
    clear hb2 HX p0 p1 p2 p3 p4
    go_wp2
    go_ret
    exact ⟨rfl, hid HX2.out.bel⟩
  as_aux_lemma =>
  rw [if_pos hc]
  have e0 : ckC S o = 0 := by unfold ckC; rw [if_pos hc]
  rw [e0] at HC
  clear hc e0
  have HFl := hid (fun wz => extFirst_nat hE wz)
  have HLl := hid (fun wz => extLast_nat hE wz)
  obtain ⟨hl1, hl2⟩ := hE.lo
  have HZ : Hid (∀ wz, AM l S wz → Calls Tryz.prog 160 #[.pointer (some ⟨l.tt, 0, none⟩), .int .i64 ((loL o.k : Nat) : Int), .int .i64 (((hiL o.k (1 + o.sz) : Nat) : Int) + 1)] wz fun e w' => e = .returned (.tuple #[.int .i64 (((hiL o.k (1 + o.sz) : Nat) : Int) + 1 - ((loL o.k : Nat) : Int) - ((cnt (fun i => inR (loL o.k) (hiL o.k (1 + o.sz) + 1) i && !(eN 4 16 S.T i == 0)) 2048 : Nat) : Int)), .bool true]) ∧ Below wz.heap.size wz w') := hid (fun wz hz => by
    have := countZero_walk hz.tt.t4 (loL o.k) (hiL o.k (1 + o.sz) + 1) (by omega) (by omega)
    rw [show ((hiL o.k (1 + o.sz) + 1 : Nat) : Int) = ((hiL o.k (1 + o.sz) : Nat) : Int) + 1 by omega] at this
    refine this.mono ?_
    rintro e w1 ⟨⟨c, rfl, HK⟩, hb⟩
    rw [HK.out.1]
    exact ⟨rfl, hb⟩)
  have hkb := hE.kn
  obtain ⟨z, hz⟩ : ∃ z : Int, ((hiL o.k (1 + o.sz) : Nat) : Int) + 1 - ((loL o.k : Nat) : Int) - ((cnt (fun i => inR (loL o.k) (hiL o.k (1 + o.sz) + 1) i && !(eN 4 16 S.T i == 0)) 2048 : Nat) : Int) = z := ⟨_, rfl⟩
  rw [hz] at HZ ⊢
  clear hz
  generalize loL o.k = lo at *
  generalize hiL o.k (1 + o.sz) = la at *
  generalize 1 + o.sz = nn at *
  clear hE
  go_enter Tryz.func146, Tryz.ntmps146
  go_upto_region 1 with fail
  (try simp only [hp])
  generalize hw1 : w.alloc _ = w1 at HX ⊢
  clear hw1 hp
  have p0 := HX.out.bk.cell 0
  have p1 := HX.out.bk.cell 1
  have p2 := HX.out.bk.cell 2
  have p3 := HX.out.bk.cell 3
  have p4 := HX.out.bk.cell 4
  simp only [obL, List.getElem?_cons_zero, List.getElem?_cons_succ] at p0 p1 p2 p3 p4
  go_wp2_with fail
  refine (HC.out _ HX.out.am).mono ?_
  rintro e w2 ⟨rfl, hb2⟩
  have HX2 := hid (HX.out.below hb2)
  clear hb2 HX p0 p1 p2 p3 p4
  have p0 := HX2.out.bk.cell 0
  have p1 := HX2.out.bk.cell 1
  have p2 := HX2.out.bk.cell 2
  have p3 := HX2.out.bk.cell 3
  have p4 := HX2.out.bk.cell 4
  simp only [obL, List.getElem?_cons_zero, List.getElem?_cons_succ] at p0 p1 p2 p3 p4
  go_wp2_with fail
  refine (HEx.out _ HX2.out.am).mono ?_
  rintro e w3 ⟨rfl, hb3⟩
  have HX3 := hid (HX2.out.below hb3)
  clear hb3 HX2 p0 p1 p2 p3 p4 HEx HC
  obtain ⟨r, hr⟩ : ∃ r, w3.heap.size = r := ⟨_, rfl⟩
  have HQ : Hid (OX w l S p (obL l o) (w3.alloc (.cells #[.int .i64 (o.k : Int), .int .i64 (nn : Int)] 84)) ∧ Blk (w3.alloc (.cells #[.int .i64 (o.k : Int), .int .i64 (nn : Int)] 84)) r 84 [.int .i64 (o.k : Int), .int .i64 (nn : Int)]) := hid (by
    have kk := Blk.new w3 [.int .i64 (o.k : Int), .int .i64 (nn : Int)] 84
    rw [hr] at kk
    exact ⟨HX3.out.below (nbel w3 _), kk⟩)
  go_upto_region 4 with fail
  (try simp only [hr])
  generalize hw4 : w3.alloc _ = w4 at HQ ⊢
  clear hw4 hr HX3
  obtain ⟨X, W, HTT, H0, hne, HCl⟩ := class_below w4
  have y0 : ∀ y, (W y).cell? ⟨p, 0, none⟩ = some (.pointer (some ⟨l.a, 0, none⟩)) := fun y => (HQ.out.1.below (HTT.out y)).bk.cell 0
  have y1 : ∀ y, (W y).cell? ⟨l.a, 4, none⟩ = some (.pointer (some ⟨l.tt, 0, none⟩)) := fun y => (HQ.out.1.below (HTT.out y)).am.cells.2.2.2.2.1
  have y2 : ∀ y, (W y).cell? ⟨r, 0, none⟩ = some (.int .i64 (o.k : Int)) := fun y => (HQ.out.2.below (HTT.out y)).cell 0
  have y3 : ∀ y, (W y).cell? ⟨r, 1, none⟩ = some (.int .i64 (nn : Int)) := fun y => (HQ.out.2.below (HTT.out y)).cell 1
  have HFl' := hid (fun y => HFl.out (W y))
  have HLl' := hid (fun y => HLl.out (W y))
  have HZ' := hid (fun y => HZ.out (W y) (HQ.out.1.below (HTT.out y)).am)
  clear HFl HLl HZ
  refine wp_region_class W (by kernel_rfl) (by kernel_rfl) H0.out ?_
  repeat (go_big_quiet_step (first | (go_at_call 209; with_reducible exact Calls.class_of HCl.out (HFl'.out _)) | (go_at_call 210; with_reducible exact Calls.class_of HCl.out (HLl'.out _)) | (go_at_call 160; with_reducible exact Calls.class_of HCl.out (HZ'.out _))))
  refine wpQuiet_nil ?_
  intro y
  have HF := hid ((HQ.out.1.below (HTT.out y)).bel)
  generalize W y = w9 at HF ⊢
  clear y0 y1 y2 y3 HFl' HLl' HZ' H0 HTT HCl hne HQ
  go_wp2
  go_ret
  exact ⟨rfl, HF⟩
end
end Go.Proofs.Qxb6500887aGreat
