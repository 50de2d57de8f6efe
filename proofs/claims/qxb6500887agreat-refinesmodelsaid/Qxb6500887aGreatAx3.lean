/- Each and its users, with an invariant that knows how far the walk is (written by tools/mk_ax3.py). -/
import Derived.Test.Qxb6500887aGreatAx2
import Derived.Test.Qxb6500887aGreatAzU
namespace Go.Proofs.Qxb6500887aGreat
open Go.RowKit
set_option linter.unusedSimpArgs false
set_option linter.unusedVariables false
/-- Visits of those that H holds of, at most mo of them but at least one. -/
def evV (H : Nat → Bool) (mo q : Nat) : Nat := min (cnt H q) (max 1 mo)
def evT (H : Nat → Bool) (f : Nat → Nat) (mo : Nat) : Nat → Nat
  | 0 => 0
  | q + 1 => if H q = true ∧ cnt H q < max 1 mo then (evT H f mo q + f q) % 18446744073709551616 else evT H f mo q
section
variable {H : Nat → Bool} {f : Nat → Nat} {mo q n : Nat}
theorem evT_lt : ∀ q, evT H f mo q < 18446744073709551616
  | 0 => by show 0 < _; decide
  | q + 1 => by
    unfold evT
    split
    · exact Nat.mod_lt _ (by decide)
    · exact evT_lt q
theorem cnt_mono {m : Nat} (h : m ≤ n) : cnt H m ≤ cnt H n := by
  obtain ⟨d, rfl⟩ : ∃ d, n = m + d := ⟨n - m, by omega⟩
  rw [cnt_add]; omega
theorem evT_stop (h : max 1 mo ≤ cnt H q) : ∀ d, evT H f mo (q + d) = evT H f mo q
  | 0 => rfl
  | d + 1 => by
    show (if H (q + d) = true ∧ cnt H (q + d) < max 1 mo then _ else evT H f mo (q + d)) = _
    rw [if_neg (by have := cnt_mono (H := H) (Nat.le_add_right q d); omega)]
    exact evT_stop h d
theorem ev_stop (h : max 1 mo ≤ cnt H q) (hn : q ≤ n) : evV H mo n = max 1 mo ∧ evT H f mo n = evT H f mo q := by
  obtain ⟨d, rfl⟩ : ∃ d, n = q + d := ⟨n - q, by omega⟩
  have := cnt_mono (H := H) (Nat.le_add_right q d)
  exact ⟨by unfold evV; omega, evT_stop h d⟩
theorem ev_skip (h : H q = false) : cnt H (q + 1) = cnt H q ∧ evT H f mo (q + 1) = evT H f mo q := by
  refine ⟨by show cnt H q + (H q).toNat = _; rw [h]; rfl, ?_⟩
  show (if H q = true ∧ _ then _ else _) = _
  rw [if_neg (by rw [h]; simp)]
theorem ev_hit (h : H q = true) (hl : cnt H q < max 1 mo) : cnt H (q + 1) = cnt H q + 1 ∧ evT H f mo (q + 1) = (evT H f mo q + f q) % 18446744073709551616 := by
  refine ⟨by show cnt H q + (H q).toNat = _; rw [h]; rfl, ?_⟩
  show (if H q = true ∧ _ then _ else _) = _
  rw [if_pos ⟨h, hl⟩]
end
section
variable {t b n wd per len : Nat} {X : Nat → Nat} {w w0 w' : World}
theorem skip_all {I : Option Nat → World → Prop} {lo hi : Nat} (hs : ∀ q w1, lo ≤ q → q < hi → eN wd per X q = 0 → I (some q) w1 → I (some (q + 1)) w1) {a k : Nat} (h1 : lo ≤ a) (h2 : a ≤ k) (h3 : k ≤ hi) (hz : ∀ i, a ≤ i → i < k → nzP wd per X i = false) {w1 : World} (hI : I (some a) w1) : I (some k) w1 := by
  obtain ⟨d, rfl⟩ : ∃ d, k = a + d := ⟨k - a, by omega⟩
  clear h2
  induction d with
  | zero => exact hI
  | succ d ih =>
    have := ih (by omega) (fun i a1 a2 => hz i a1 (by omega))
    refine hs (a + d) w1 (by omega) (by omega) ?_ this
    have h0 := hz (a + d) (by omega) (by omega)
    unfold nzP at h0
    simpa using h0
set_option maxRecDepth 100000 in
set_option maxHeartbeats 2000000 in
/-- Each, whatever the closure: an invariant that leaves the table as it is. -/
theorem TB.eachX (fid : FuncId) (cp : Array Value) (I : Option Nat → World → Prop) (lo hi : Nat) (hI : I (some lo) w) (hT : ∀ q w1, I q w1 → TB t b n wd per len X w1) (hbel : ∀ q w1 w2, I q w1 → Below w1.heap.size w1 w2 → I q w2) (h1 : lo ≤ hi) (h2 : hi ≤ n)
    (hcall : ∀ (k : Nat) w1, lo ≤ k → k < hi → eN wd per X k ≠ 0 → I (some k) w1 → Calls Tryz.prog fid (#[.int .i64 (k : Int), .int .u64 ((eN wd per X k : Nat) : Int)] ++ cp) w1 (fun e w' => ∃ ok : Bool, e = .returned (.bool ok) ∧ I (if ok then some (k + 1) else none) w')) (hsk : ∀ q w1, lo ≤ q → q < hi → eN wd per X q = 0 → I (some q) w1 → I (some (q + 1)) w1) (hent : ∀ args w, (callFunc fid args).run Tryz.prog w = .ok (.enter fid args) w) :
    Calls Tryz.prog 230 #[.pointer (some ⟨t, 0, none⟩), .int .i64 (lo : Int), .int .i64 (hi : Int), .func (.func fid) #[] cp] w fun e w' => e = .returned (.bool true) ∧ ∃ q, (q = none ∨ q = some hi) ∧ I q w' := by
  have HT := hid hT
  have HBe := hid hbel
  have HCa := hid hcall
  have HI := hid hI
  have HSk := hid hsk
  have HH := hid ((hT _ w hI).hasRange lo hi h1 h2)
  have hn := (hT _ w hI).k.n
  clear hT hbel hcall hI hsk
  go_enter Tryz.func230, Tryz.ntmps230
  go_wp2_with fail
  refine HH.out.mono ?_
  rintro e w1 ⟨rfl, hw1⟩
  have hw1' := hw1.symm
  clear hw1
  subst hw1'
  clear HH
  go_upto_region 4 with fail
  go_loopw [9] (fun u wr => ∃ a : Nat, u = .int .i64 (a : Int) ∧ lo ≤ a ∧ a ≤ hi ∧ Hid (I (some a) wr)) (fun u _ => hi - (intOf u).toNat)
  case atStart => exact ⟨lo, rfl, Nat.le_refl _, h1, HI⟩
  case round =>
  clear HI
  obtain ⟨a, rfl, hla, hah, HK⟩ := hrel
  by_cases hlt : a < hi
  rotate_left
  · as_aux_lemma =>
    have dq : decide ((a : Int) < (hi : Int)) = false := decide_eq_false (by omega)
    have e1 : a = hi := by omega
    have HF : Hid (∃ q, (q = none ∨ q = some hi) ∧ I q wr) := hid ⟨_, .inr rfl, by rw [← e1]; exact HK.out⟩
    clear e1 HK
    go_wp2
    go_ret
    exact ⟨rfl, HF.out⟩
  as_aux_lemma =>
  have dq : decide ((a : Int) < (hi : Int)) = true := decide_eq_true (by omega)
  have HN := hid ((HT.out _ wr HK.out).nextNonzero a hi (by omega) h2)
  go_wp2_with fail
  refine HN.out.mono ?_
  rintro e w2 ⟨r, rfl, HB⟩
  have HI2 := hid (HBe.out _ _ _ HK.out HB.out.2)
  clear HN HK
  rcases HB.out.1 with ⟨rfl, hz⟩ | ⟨k, rfl, hk1, hk2, hk3, hz⟩
  · as_aux_lemma =>
    have HF : Hid (∃ q, (q = none ∨ q = some hi) ∧ I q w2) := hid ⟨_, .inr rfl, skip_all HSk.out hla hah (Nat.le_refl _) hz HI2.out⟩
    clear HB hz HI2
    go_wp2
    go_ret
    exact ⟨rfl, HF.out⟩
  · as_aux_lemma =>
    have hk3' : eN wd per X k ≠ 0 := by
      unfold nzP at hk3
      simpa using hk3
    have HIk : Hid (I (some k) w2) := hid (skip_all HSk.out hla hk1 (by omega) hz HI2.out)
    clear HB hk3 hz HI2
    have d0 : decide ((k : Int) < 0) = false := decide_eq_false (by omega)
    have HG := hid ((HT.out _ _ HIk.out).get k (by omega))
    have HCk := hid (fun w1 hw => HCa.out k w1 (by omega) hk2 hk3' hw)
    go_wp2_with fail
    refine HG.out.mono ?_
    rintro e w3 ⟨rfl, hd3⟩
    have HI3 := hid (HBe.out _ _ _ HIk.out (hd3.below _))
    clear hd3 HIk HG HCa hk3'
    generalize eN wd per X k = v at HCk
    go_wp2_with fail
    refine (HCk.out _ HI3.out).mono ?_
    rintro e w4 ⟨ok, rfl, hi4⟩
    have HI4 := hid hi4
    clear hi4 HI3 HCk
    cases ok with
    | false =>
      as_aux_lemma =>
      go_wp2
      go_ret
      exact ⟨rfl, none, .inl rfl, HI4.out⟩
    | true =>
      as_aux_lemma =>
      go_wp2
      exact ⟨⟨k + 1, by go_num, by omega, by omega, HI4⟩, by simp [intOf]; omega⟩
end
section
variable {l : AL} {S : AS} {w w' w0 : World} {p : Nat} {ty : TypeId} {v : Value} {gs : List Nat}
theorem EB.stepX {I I' : World → Prop} {w0 : World} (hgs : ∀ g ∈ gs, g < w0.heap.size) (h : EB I p ty v w0 gs w) (hi : I' w') (hu : UL gs w w') : EB I' p ty v w0 gs w' := ⟨hi, hu.blk h.b (fun hm => by have := hgs p hm; have := h.lo; omega), h.u.trans hu, h.lo⟩
set_option maxRecDepth 100000 in
theorem eachC1X (fid : FuncId) (cp : Array Value) (hent : FnE fid) {Q : Bool → World → Prop} (k v : Nat) (hk : k < 16384) (hv : v < 4) (hb : w.cell? ⟨p, 0, none⟩ = some (.func (.func fid) #[] cp))
    (hc : Calls Tryz.prog fid (#[.int .u64 (65536 + (k : Int) * 2), .int .u8 (v : Int)] ++ cp) w (fun e w' => ∃ ok : Bool, e = .returned (.bool ok) ∧ Q ok w')) : Calls Tryz.prog 231 #[.int .i64 (k : Int), .int .u64 (v : Int), .pointer (some ⟨p, 0, none⟩)] w (fun e w' => ∃ ok : Bool, e = .returned (.bool ok) ∧ Q ok w') := by
  have HA := hid (addrOfGranule_in (k : Int) (by omega) (by omega) w)
  have HC := hid hc
  unfold FnE at hent
  clear hc
  go_enter Tryz.func231, Tryz.ntmps231
  (go_wp2_with fail; refine (HA.out).mono ?_; rintro e_ w_ ⟨he_, hw_⟩; subst he_; have hs_ := hw_.symm; clear hw_; subst hs_)
  go_wp2_with fail
  refine HC.out.mono ?_
  rintro e w2 ⟨ok, rfl, hq⟩
  have HQ := hid hq
  clear hq HC
  go_wp2
  go_ret
  exact ⟨ok, rfl, HQ.out⟩
set_option maxRecDepth 100000 in
theorem eachL1X (fid : FuncId) (cp : Array Value) (hent : FnE fid) {Q : Bool → World → Prop} (k v : Nat) (hk : k < 32768) (hv : v < 4) (hb : w.cell? ⟨p, 0, none⟩ = some (.func (.func fid) #[] cp))
    (hc : Calls Tryz.prog fid (#[.int .u64 (65536 + (k : Int))] ++ cp) w (fun e w' => ∃ ok : Bool, e = .returned (.bool ok) ∧ Q ok w')) : Calls Tryz.prog 232 #[.int .i64 (k : Int), .int .u64 (v : Int), .pointer (some ⟨p, 0, none⟩)] w (fun e w' => ∃ ok : Bool, e = .returned (.bool ok) ∧ Q ok w') := by
  have HA := hid (addrOfWord_in (k : Int) (by omega) (by omega) w)
  have HC := hid hc
  unfold FnE at hent
  clear hc
  go_enter Tryz.func232, Tryz.ntmps232
  (go_wp2_with fail; refine (HA.out).mono ?_; rintro e_ w_ ⟨he_, hw_⟩; subst he_; have hs_ := hw_.symm; clear hw_; subst hs_)
  go_wp2_with fail
  refine HC.out.mono ?_
  rintro e w2 ⟨ok, rfl, hq⟩
  have HQ := hid hq
  clear hq HC
  go_wp2
  go_ret
  exact ⟨ok, rfl, HQ.out⟩
set_option maxRecDepth 100000 in
set_option maxHeartbeats 1000000 in
/-- EachCounted, whatever the closure. -/
theorem eachCountedX (fid : FuncId) (cp : Array Value) (hent : FnE fid) (I : Option Nat → World → Prop) (gs : List Nat) (hgs : ∀ g ∈ gs, g < w.heap.size) (hA : ∀ q w1, I q w1 → AM l S w1) (hbel : ∀ q w1 w2, I q w1 → Below w1.heap.size w1 w2 → I q w2) (x : Int) (hI : I (some (x.toNat * 256)) w) (hsk : ∀ q w1, x.toNat * 256 ≤ q → q < (x.toNat + 1) * 256 → eN 2 32 S.C q = 0 → I (some q) w1 → I (some (q + 1)) w1)
    (hcall : ∀ (k v : Nat) w1, x.toNat * 256 ≤ k → k < (x.toNat + 1) * 256 → k < 16384 → v < 4 → v ≠ 0 → eN 2 32 S.C k = v → I (some k) w1 → Calls Tryz.prog fid (#[.int .u64 (65536 + (k : Int) * 2), .int .u8 (v : Int)] ++ cp) w1 (fun e w' => ∃ ok : Bool, e = .returned (.bool ok) ∧ I (if ok then some (k + 1) else none) w' ∧ UL gs w1 w')) :
    Calls Tryz.prog 185 #[.pointer (some ⟨l.a, 0, none⟩), .int .i64 x, .func (.func fid) #[] cp] w fun e w' => e = .returned (.int .u8 (if 0 ≤ x ∧ x < 64 then 0 else 1)) ∧ Hid ((∃ q, I q w' ∧ (0 ≤ x ∧ x < 64 → q = none ∨ q = some ((x.toNat + 1) * 256))) ∧ UL gs w w') := by
  obtain ⟨p, hp⟩ : ∃ p, w.heap.size = p := ⟨_, rfl⟩
  have HX : Hid (EB (I (some (x.toNat * 256))) p 199 (.func (.func fid) #[] cp) w gs (w.alloc (.cells #[.func (.func fid) #[] cp] 199))) := hid (EB.start (hbel _) hI hp)
  have HV := hid (fun wz => validBlock_walk x wz)
  have HA := hid hA
  have HBe := hid hbel
  have HG := hid hgs
  have HCa := hid hcall
  have HSk := hid hsk
  have HEn := hid hent
  have en1 : ∀ args w, (callFunc 231 args).run Tryz.prog w = .ok (.enter 231 args) w := ent_c1
  clear hI hA hbel hgs hcall hent hsk
  by_cases hv : 0 ≤ x ∧ x < 64
  · rw [if_pos hv]
    rw [decide_eq_true hv] at HV
    obtain ⟨b, rfl⟩ : ∃ b : Nat, x = (b : Int) := ⟨x.toNat, by omega⟩
    have hb : b < 64 := by omega
    rw [show ((b : Int)).toNat = b by omega] at HX HCa HSk ⊢
    have Hv := hid hv
    clear hv
    have f1 : (b : Int) * 256 = ((b * 256 : Nat) : Int) := by omega
    have f2 : ((b : Int) + 1) * 256 = (((b + 1) * 256 : Nat) : Int) := by omega
    have HE : Hid (∀ wz, EB (I (some (b * 256))) p 199 (.func (.func fid) #[] cp) w gs wz → Calls Tryz.prog 230 #[.pointer (some ⟨l.tc, 0, none⟩), .int .i64 ((b : Int) * 256), .int .i64 (((b : Int) + 1) * 256), .func (.func 231) #[] #[.pointer (some ⟨p, 0, none⟩)]] wz fun e w' => e = .returned (.bool true) ∧ ∃ q, (q = none ∨ q = some ((b + 1) * 256)) ∧ EB (I q) p 199 (.func (.func fid) #[] cp) w gs w') := hid (fun wz hz => by
      have := TB.eachX (n := 16384) (wd := 2) (per := 32) (len := 512) (X := S.C) (b := l.bc) (t := l.tc) (w := wz) 231 #[.pointer (some ⟨p, 0, none⟩)] (fun q w1 => EB (I q) p 199 (.func (.func fid) #[] cp) w gs w1) (b * 256) ((b + 1) * 256) hz (fun q w1 h1 => (HA.out _ _ h1.i).tc) (fun q w1 w2 h1 h2 => h1.below (HBe.out q) h2) (by omega) (by omega) (fun k w1 k1 k2 k3 h1 => by
        exact eachC1X (w := w1) (p := p) (Q := fun ok w' => EB (I (if ok then some (k + 1) else none)) p 199 (.func (.func fid) #[] cp) w gs w') fid cp HEn.out k (eN 2 32 S.C k) (by omega) (eN_lt 2 32 S.C k) h1.cell ((HCa.out k (eN 2 32 S.C k) w1 k1 k2 (by omega) (eN_lt 2 32 S.C k) k3 rfl h1.i).mono (by rintro e w2 ⟨ok, rfl, i2, u2⟩; exact ⟨ok, rfl, h1.stepX HG.out i2 u2⟩))) (fun q w1 q1 q2 q3 h1 => ⟨HSk.out q w1 q1 q2 q3 h1.i, h1.b, h1.u, h1.lo⟩) ent_c1
      rw [← f1, ← f2] at this
      exact this)
    have HA0 := hid HA.out
    clear f1 f2 HCa HA HG HSk
    go_enter Tryz.func185, Tryz.ntmps185
    go_upto_region 1 with fail
    (try simp only [hp])
    generalize hw1 : w.alloc _ = w1 at HX ⊢
    clear hw1 hp
    (go_wp2_with fail; refine (HV.out w1).mono ?_; rintro e_ w_ ⟨he_, hw_⟩; subst he_; have hs_ := hw_.symm; clear hw_; subst hs_)
    have k1 := (HA0.out _ _ HX.out.i).cells.2.1
    go_wp2_with fail
    refine (HE.out _ HX.out).mono ?_
    rintro e w2 ⟨rfl, q, hq, he2⟩
    have HX2 := hid he2
    have HQ := hid hq
    clear he2 HX HE hq
    go_wp2
    go_ret
    exact ⟨rfl, hid ⟨⟨q, HX2.out.i, fun _ => HQ.out⟩, HX2.out.u⟩⟩
  · rw [if_neg hv]
    rw [decide_eq_false hv] at HV
    have Hv := hid hv
    clear hv
    go_enter Tryz.func185, Tryz.ntmps185
    go_upto_region 1 with fail
    (try simp only [hp])
    generalize hw1 : w.alloc _ = w1 at HX ⊢
    clear hw1 hp
    (go_wp2_with fail; refine (HV.out w1).mono ?_; rintro e_ w_ ⟨he_, hw_⟩; subst he_; have hs_ := hw_.symm; clear hw_; subst hs_)
    go_wp2
    go_ret
    exact ⟨rfl, hid ⟨⟨_, HX.out.i, fun hh => absurd hh Hv.out⟩, HX.out.u⟩⟩
set_option maxRecDepth 100000 in
set_option maxHeartbeats 1000000 in
/-- EachLogged, whatever the closure. -/
theorem eachLoggedX (fid : FuncId) (cp : Array Value) (hent : FnE fid) (I : Option Nat → World → Prop) (gs : List Nat) (hgs : ∀ g ∈ gs, g < w.heap.size) (hA : ∀ q w1, I q w1 → AM l S w1) (hbel : ∀ q w1 w2, I q w1 → Below w1.heap.size w1 w2 → I q w2) (x y : Int) (hI : I (some (wIx x)) w) (hsk : ∀ q w1, wIx x ≤ q → q < wIx y → eN 1 64 S.L q = 0 → I (some q) w1 → I (some (q + 1)) w1)
    (hcall : ∀ (k : Nat) w1, wIx x ≤ k → k < wIx y → k < 32768 → eN 1 64 S.L k ≠ 0 → I (some k) w1 → Calls Tryz.prog fid (#[.int .u64 (65536 + (k : Int))] ++ cp) w1 (fun e w' => ∃ ok : Bool, e = .returned (.bool ok) ∧ I (if ok then some (k + 1) else none) w' ∧ UL gs w1 w')) :
    Calls Tryz.prog 187 #[.pointer (some ⟨l.a, 0, none⟩), .int .u64 x, .int .u64 y, .func (.func fid) #[] cp] w fun e w' => e = .returned (.int .u8 (stC x y false)) ∧ Hid ((∃ q, I q w' ∧ (stC x y false = 0 → q = none ∨ q = some (wIx y))) ∧ UL gs w w') := by
  obtain ⟨p, hp⟩ : ∃ p, w.heap.size = p := ⟨_, rfl⟩
  have HX : Hid (EB (I (some (wIx x))) p 201 (.func (.func fid) #[] cp) w gs (w.alloc (.cells #[.func (.func fid) #[] cp] 201))) := hid (EB.start (hbel _) hI hp)
  have HA := hid hA
  have HBe := hid hbel
  have HG := hid hgs
  have HCa := hid hcall
  have HSk := hid hsk
  have HEn := hid hent
  have en1 : ∀ args w, (callFunc 232 args).run Tryz.prog w = .ok (.enter 232 args) w := ent_l1
  clear hI hA hbel hgs hcall hent hsk
  by_cases hc : stC x y false = 0
  · rw [hc]
    have HS := hid (fun wz => stretch_g hc wz)
    obtain ⟨b1, b2, hz⟩ := stC_ok hc
    clear hz hc
    generalize wIx x = lo at *
    generalize wIx y = hi at *
    have HE : Hid (∀ wz, EB (I (some lo)) p 201 (.func (.func fid) #[] cp) w gs wz → Calls Tryz.prog 230 #[.pointer (some ⟨l.tl, 0, none⟩), .int .i64 (lo : Int), .int .i64 (hi : Int), .func (.func 232) #[] #[.pointer (some ⟨p, 0, none⟩)]] wz fun e w' => e = .returned (.bool true) ∧ ∃ q, (q = none ∨ q = some hi) ∧ EB (I q) p 201 (.func (.func fid) #[] cp) w gs w') := hid (fun wz hz => by
      have := TB.eachX (n := 32768) (wd := 1) (per := 64) (len := 512) (X := S.L) (b := l.bl) (t := l.tl) (w := wz) 232 #[.pointer (some ⟨p, 0, none⟩)] (fun q w1 => EB (I q) p 201 (.func (.func fid) #[] cp) w gs w1) lo hi hz (fun q w1 h1 => (HA.out _ _ h1.i).tl) (fun q w1 w2 h1 h2 => h1.below (HBe.out q) h2) b1 b2 (fun k w1 k1 k2 k3 h1 => by
        have h2 := eN_lt 1 64 S.L k
        exact eachL1X (w := w1) (p := p) (Q := fun ok w' => EB (I (if ok then some (k + 1) else none)) p 201 (.func (.func fid) #[] cp) w gs w') fid cp HEn.out k (eN 1 64 S.L k) (by omega) (Nat.lt_trans h2 (by decide)) h1.cell ((HCa.out k w1 k1 k2 (by omega) k3 h1.i).mono (by rintro e w2 ⟨ok, rfl, i2, u2⟩; exact ⟨ok, rfl, h1.stepX HG.out i2 u2⟩))) (fun q w1 q1 q2 q3 h1 => ⟨HSk.out q w1 q1 q2 q3 h1.i, h1.b, h1.u, h1.lo⟩) ent_l1
      exact this)
    have HA0 := hid HA.out
    clear HCa HA HG HSk
    go_enter Tryz.func187, Tryz.ntmps187
    go_upto_region 1 with fail
    (try simp only [hp])
    generalize hw1 : w.alloc _ = w1 at HX ⊢
    clear hw1 hp
    (go_wp2_with fail; refine (HS.out w1).mono ?_; rintro e_ w_ ⟨he_, hw_⟩; subst he_; have hs_ := hw_.symm; clear hw_; subst hs_)
    have k1 := (HA0.out _ _ HX.out.i).cells.2.2.2.1
    go_wp2_with fail
    refine (HE.out _ HX.out).mono ?_
    rintro e w2 ⟨rfl, q, hq, he2⟩
    have HX2 := hid he2
    have HQ := hid hq
    clear he2 HX HE hq
    go_wp2
    go_ret
    exact ⟨rfl, hid ⟨⟨q, HX2.out.i, fun _ => HQ.out⟩, HX2.out.u⟩⟩
  · have HS := hid (fun wz => stretch_b hc wz)
    have dc : (stC x y false == 0) = false := by simpa using hc
    have dc2 : (stC x y false != 0) = true := by simp [bne, dc]
    generalize stC x y false = c at *
    have Hv := hid hc
    clear hc
    go_enter Tryz.func187, Tryz.ntmps187
    go_upto_region 1 with fail
    (try simp only [hp])
    generalize hw1 : w.alloc _ = w1 at HX ⊢
    clear hw1 hp
    (go_wp2_with fail; refine (HS.out w1).mono ?_; rintro e_ w_ ⟨he_, hw_⟩; subst he_; have hs_ := hw_.symm; clear hw_; subst hs_)
    go_wp2
    go_ret
    exact ⟨rfl, hid ⟨⟨_, HX.out.i, fun hh => absurd hh Hv.out⟩, HX.out.u⟩⟩
end
end Go.Proofs.Qxb6500887aGreat
